/- Part 2 of a proof in many texts, put together: definitions and lemmas. The theorem stands in the last text; no conditions. -/
import Derived.Test.YtmfdjipijifababPart1
import Derived.Laws.Small
import Derived.RangeFuncIn
import Derived.RangeFuncLeaves
import Derived.RangeFuncRecord
section
/- The abstract machine, fifth part: slices, fields, elements, append, and each operation at once. -/
set_option linter.unusedVariables false
set_option linter.unusedSimpArgs false
namespace Go.Ab
section
variable {C : Cfg} {ρ : Ren} {I : Nat → Prop} {w : World} {m : Mem}

theorem fieldAddrA_sound {s : TypeId} {f : Nat} {x y : AVal} {v : Value} (hv : VR ρ I w x v) (h : fieldAddrA C.P s x f = some y) :
    ∃ u, (Instr.fieldAt s v f).run C.P w = .ok u w ∧ VR ρ I w y u := by
  unfold fieldAddrA at h
  split at h
  · rename_i fs hu
    split at h
    · rename_i fd hf
      split at h
      · rename_i n hn
        split at h
        · cases h
        · rename_i hn0
          split at h
          · rename_i id off
            cases h
            obtain ⟨b, base, hr, rfl⟩ := hv.ptr_inv
            refine ⟨.pointer (some ⟨b, base + (off + fd.offset), none⟩), ?_, .ptr id _ b base hr⟩
            simp [Instr.fieldAt, run_underlying' w hu, hf, Instr.sureAddr, fieldPlace, run_sizeOf' w hn, hn0, add_none, Nat.add_assoc]
          · rename_i cs
            cases h
            cases hv.iptr_inv with
            | iptr b o _ vs hI h1 h2 =>
              refine ⟨.pointer (some ⟨b, o + fd.offset, none⟩), ?_, .vi _ _ (.iptr b _ _ (fun j => vs (fd.offset + j)) hI (fun j a hj => ?_) (fun j a hj => ?_))⟩
              · simp [Instr.fieldAt, run_underlying' w hu, hf, Instr.sureAddr, fieldPlace, run_sizeOf' w hn, hn0, add_none]
              · rw [Nat.add_assoc]; exact h1 _ a (by simpa using hj)
              · exact h2 _ a (by simpa using hj)
          · cases h
      · cases h
    · cases h
  · cases h

theorem partA_sound {t : TypeId} {cs : List AVal} {off : Nat} {vs : Array Value} {y : AVal} (hv : VRs ρ I w cs vs.toList) (h1 : OneCells vs.toList) (h : partA C.P t cs off = some y) :
    ∃ u, (part t vs off).run C.P w = .ok u w ∧ VR ρ I w y u := by
  unfold partA at h
  split at h
  · rename_i n hA hS
    split at h
    · rename_i hle
      cases h
      refine ⟨.agg (vs.extract off (off + n)), by simp [part, run_isAgg' w hA, run_sizeOf' w hS], ?_⟩
      have e : (vs.extract off (off + n)).toList = (vs.toList.drop off).take n := by simp [Array.toList_extract, List.extract_eq_take_drop]
      exact VR.agg_mk (by rw [e]; exact (hv.drop off).take n) (by rw [e]; exact (h1.drop off).take n)
    · cases h
  · rename_i n hA hS
    have hlt : off < vs.toList.length := by rw [← hv.1]; exact (List.getElem?_eq_some_iff.1 h).1
    have hlt' : off < vs.size := by simpa using hlt
    refine ⟨vs[off], ?_, hv.2 off y _ h (by simp [hlt'])⟩
    simp [part, run_isAgg' w hA, hlt']
  · cases h

theorem fieldA_sound {s : TypeId} {f : Nat} {x y : AVal} {v : Value} (hv : VR ρ I w x v) (h : fieldA C.P s x f = some y) :
    ∃ u, (Instr.field s v f).run C.P w = .ok u w ∧ VR ρ I w y u := by
  unfold fieldA at h
  split at h
  · rename_i fs cs hu
    split at h
    · rename_i fd hf
      obtain ⟨vs, rfl, g1, g2⟩ := hv.agg_inv
      obtain ⟨u, k1, k2⟩ := partA_sound (C := C) g1 g2 h
      exact ⟨u, by simp [Instr.field, run_underlying' w hu, hf, asAgg, k1], k2⟩
    · cases h
  · cases h

theorem indexAddrA_sound {t : TypeId} {x ix y : AVal} {v vi : Value} (hv : VR ρ I w x v) (hi : VR ρ I w ix vi) (h : indexAddrA C.P t x ix = some y) :
    ∃ u, (Instr.indexAt t v vi).run C.P w = .ok u w ∧ VR ρ I w y u := by
  unfold indexAddrA at h
  split at h
  · rename_i k i
    have e1 := hi.int_inv
    subst e1
    split at h
    · rename_i n e hu
      split at h
      · rename_i sz id off hs
        split at h
        · rename_i hc
          cases h
          obtain ⟨b, base, hr, rfl⟩ := hv.ptr_inv
          refine ⟨.pointer (some ⟨b, base + (off + i.toNat * sz), none⟩), ?_, .ptr id _ b base hr⟩
          simp [Instr.indexAt, asIntOf, run_underlying' w hu, Instr.sureAddr, hc.1, hc.2, run_sizeOf' w hs, add_none, Nat.add_assoc]
        · cases h
      · rename_i sz cs hs
        split at h
        · rename_i hc
          cases h
          cases hv.iptr_inv with
          | iptr b o _ vs hI h1 h2 =>
            refine ⟨.pointer (some ⟨b, o + i.toNat * sz, none⟩), ?_, .vi _ _ (.iptr b _ _ (fun j => vs (i.toNat * sz + j)) hI (fun j a hj => ?_) (fun j a hj => ?_))⟩
            · simp [Instr.indexAt, asIntOf, run_underlying' w hu, Instr.sureAddr, hc.1, hc.2, run_sizeOf' w hs, add_none]
            · rw [Nat.add_assoc]; exact h1 _ a (by simpa using hj)
            · exact h2 _ a (by simpa using hj)
        · cases h
      · cases h
    · rename_i e hu
      split at h
      · rename_i sz id off n s hs
        split at h
        · rename_i hc
          obtain ⟨rfl, hc⟩ := hc
          cases h
          cases hv with
          | vi _ _ hv => cases hv
          | own0 => exfalso; simp at hc; omega
          | own _ _ _ _ c b base cur el fr hr hb hn hcap =>
            refine ⟨.pointer (some ⟨b, base + (off + i.toNat * s), none⟩), ?_, .ptr id _ b base hr⟩
            simp [Instr.indexAt, asIntOf, run_underlying' w hu, hc.1, hc.2, run_sizeOf' w hs, add_none, Nat.add_assoc]
        · cases h
      · rename_i sz n cs hs
        split at h
        · rename_i hc
          cases h
          cases hv.imm_inv with
          | imm0 => exfalso; simp at hc; omega
          | imm _ c b o _ vs hI hn h1 h2 =>
            refine ⟨.pointer (some ⟨b, o + i.toNat * sz, none⟩), ?_, .vi _ _ (.iptr b _ _ (fun j => vs (i.toNat * sz + j)) hI (fun j a hj => ?_) (fun j a hj => ?_))⟩
            · simp [Instr.indexAt, asIntOf, run_underlying' w hu, hc.1, hc.2, run_sizeOf' w hs, add_none]
            · rw [Nat.add_assoc]; exact h1 _ a (by simpa using hj)
            · exact h2 _ a (by simpa using hj)
        · cases h
      · cases h
    · cases h
  · cases h

theorem indexA_sound {t : TypeId} {x ix y : AVal} {v vi : Value} (hv : VR ρ I w x v) (hi : VR ρ I w ix vi) (h : indexA C.P t x ix = some y) :
    ∃ u, (Instr.index t v vi).run C.P w = .ok u w ∧ VR ρ I w y u := by
  unfold indexA at h
  split at h
  · rename_i k i n e cs hu
    have e1 := hi.int_inv
    subst e1
    split at h
    · rename_i sz hs
      split at h
      · rename_i hc
        obtain ⟨vs, rfl, g1, g2⟩ := hv.agg_inv
        obtain ⟨u, k1, k2⟩ := partA_sound (C := C) g1 g2 h
        exact ⟨u, by simp [Instr.index, asIntOf, run_underlying' w hu, hc.1, hc.2, run_sizeOf' w hs, k1], k2⟩
      · cases h
    · cases h
  · rename_i k i s hu
    have e1 := hi.int_inv
    subst e1
    split at h
    · rename_i hc
      split at h
      · rename_i b hb
        cases h
        have e2 := hv.str_inv
        subst e2
        exact ⟨_, by simp [Instr.index, asIntOf, run_underlying' w hu, hc, hb], .vi _ _ (.int _ _)⟩
      · cases h
    · cases h
  · cases h

theorem extractA_sound {i : Nat} {x y : AVal} {v : Value} (hv : VR ρ I w x v) (h : extractA x i = some y) :
    ∃ u, (Instr.extract v i).run C.P w = .ok u w ∧ VR ρ I w y u := by
  unfold extractA at h
  split at h
  · rename_i xs
    obtain ⟨vs, rfl, g⟩ := hv.tup_inv
    have hlt : i < vs.toList.length := by rw [← g.1]; exact (List.getElem?_eq_some_iff.1 h).1
    have hlt' : i < vs.size := by simpa using hlt
    exact ⟨vs[i], by simp [Instr.extract, hlt'], g.2 i y _ h (by simp [hlt'])⟩
  · cases h

theorem lenA_sound {t ty : TypeId} {x y : AVal} {v : Value} (hv : VR ρ I w x v) (h : lenA C.P t x = some y) :
    ∃ u, (Builtin.len_ #[t] ty #[v]).run C.P w = .ok u w ∧ VR ρ I w y u := by
  unfold lenA at h
  split at h
  · rename_i e id off n sz hu
    cases h
    cases hv with
    | vi _ _ hv => cases hv
    | own0 => exact ⟨.int .i64 0, by simp [Builtin.len_, run_underlying' w hu, goInt], .vi _ _ (.int _ _)⟩
    | own _ _ _ _ c b base cur el fr hr hb hn hcap => exact ⟨.int .i64 n, by simp [Builtin.len_, run_underlying' w hu, goInt], .vi _ _ (.int _ _)⟩
  · rename_i e n cs hu
    cases h
    cases hv.imm_inv with
    | imm0 => exact ⟨.int .i64 0, by simp [Builtin.len_, run_underlying' w hu, goInt], .vi _ _ (.int _ _)⟩
    | imm _ c b o _ vs hI hn h1 h2 => exact ⟨.int .i64 n, by simp [Builtin.len_, run_underlying' w hu, goInt], .vi _ _ (.int _ _)⟩
  · rename_i e hu
    cases h
    have := hv.nils_inv
    subst this
    exact ⟨.int .i64 0, by simp [Builtin.len_, run_underlying' w hu, goInt], .vi _ _ (.int _ _)⟩
  · rename_i e hu
    cases h
    obtain ⟨a, rfl⟩ := hv.emp_inv
    exact ⟨.int .i64 0, by simp [Builtin.len_, run_underlying' w hu, goInt], .vi _ _ (.int _ _)⟩
  · rename_i s hu
    cases h
    have := hv.str_inv
    subst this
    exact ⟨.int .i64 s.size, by simp [Builtin.len_, run_underlying' w hu, goInt], .vi _ _ (.int _ _)⟩
  · rename_i n e hu
    cases h
    exact ⟨.int .i64 n, by simp [Builtin.len_, run_underlying' w hu, goInt], .vi _ _ (.int _ _)⟩
  · cases h

theorem genericA_sound {o : Oper} {env : Nat → AVal} {ev : Operand → Value} {y : AVal} (hE : ∀ x, VR ρ I w (opd C env x) (ev x)) (hs : ∀ cs b, o.op ≠ .select cs b)
    (h : genericA C o env = some y) : ∃ u, (execOp ev o).run C.P w = .ok (.value u) w ∧ VR ρ I w y u := by
  unfold genericA at h
  split at h
  · rename_i hall
    split at h
    · rename_i v hp
      cases h
      refine ⟨v, ?_, .vi _ _ (VI.ofValue I w v)⟩
      rw [execOp_congr (ρ := ev) (ρ' := fun x => ((opd C env x).conc).getD undef) o hs (fun x hx => ?_)]
      · exact pureRun_run C.P _ _ w hp
      · have := List.all_eq_true.1 hall x (by simpa using hx)
        cases hc : (opd C env x).conc with
        | none => simp [hc] at this
        | some u => simpa using (hE x).conc_eq hc
    · cases h
  · cases h

theorem boundA_spec {y l : Nat} {x : AVal} {v : Value} {code : BoundsCode} (hv : VR ρ I w x v) (h : boundA y x = some l) : (Instr.sliceBound v y code).run C.P w = .ok l w ∧ l ≤ y := by
  unfold boundA at h
  split at h
  · rename_i k i
    have := hv.int_inv
    subst this
    split at h
    · rename_i hc
      cases h
      exact ⟨run_sliceBound (P := C.P) (w := w) k i y code hc.1 hc.2, by omega⟩
    · cases h
  · cases h

/-- The bounds, where the length is known and the capacity is not less. -/
theorem boundsA_spec {n c : Nat} (hnc : n ≤ c) {lo hi mx : Option AVal} {vl vh vm : Option Value} {l h : Nat} {k : Option Nat} {isSlice : Bool}
    (hl : ∀ x, lo = some x → ∃ v, vl = some v ∧ VR ρ I w x v) (hl0 : lo = none → vl = none)
    (hh : ∀ x, hi = some x → ∃ v, vh = some v ∧ VR ρ I w x v) (hh0 : hi = none → vh = none)
    (hm : ∀ x, mx = some x → ∃ v, vm = some v ∧ VR ρ I w x v) (hm0 : mx = none → vm = none)
    (hb : boundsA n lo hi mx = some (l, h, k)) :
    (Instr.sliceBounds isSlice n c vl vh vm).run C.P w = .ok (l, h, k.getD c) w ∧ l ≤ h ∧ h ≤ n ∧ (∀ q, k = some q → h ≤ q ∧ q ≤ n) := by
  have up : ∀ {x : AVal} {v : Value} {code : BoundsCode} {a : Nat}, VR ρ I w x v → boundA n x = some a → (Instr.sliceBound v c code).run C.P w = .ok a w ∧ a ≤ n := by
    intro x v code a hv ha
    obtain ⟨_, hle⟩ := boundA_spec (C := C) (code := code) hv ha
    refine ⟨(boundA_spec (C := C) (y := c) hv ?_).1, hle⟩
    unfold boundA at ha ⊢
    split at ha
    · split at ha
      · rename_i hc; cases ha; rw [if_pos ⟨hc.1, by omega⟩]
      · cases ha
    · cases ha
  unfold boundsA at hb
  split at hb
  · rename_i xm
    obtain ⟨wm, rfl, hwm⟩ := hm xm rfl
    split at hb
    · rename_i xm' xh q hq
      obtain ⟨wh, rfl, hwh⟩ := hh _ rfl
      obtain ⟨r1, r2⟩ := up (code := if isSlice then .slice3Acap else .slice3Alen) hwm hq
      split at hb
      · rename_i h' hh'
        obtain ⟨r3, r4⟩ := boundA_spec (C := C) (code := .slice3B) hwh hh'
        split at hb
        · rename_i xl
          obtain ⟨wl, rfl, hwl⟩ := hl _ rfl
          cases hl' : boundA h' xl with
          | none => simp [hl'] at hb
          | some l' =>
            simp only [hl', Option.map_some, Option.some.injEq, Prod.mk.injEq] at hb
            obtain ⟨rfl, rfl, rfl⟩ := hb
            obtain ⟨r5, r6⟩ := boundA_spec (C := C) (code := .slice3C) hwl hl'
            refine ⟨?_, r6, by omega, fun q' e => by cases e; exact ⟨r4, r2⟩⟩
            simp [Instr.sliceBounds, r1, r3, r5]
        · cases hb
          rw [hl0 rfl]
          refine ⟨?_, Nat.zero_le _, by omega, fun q' e => by cases e; exact ⟨r4, r2⟩⟩
          simp [Instr.sliceBounds, r1, r3]
      · cases hb
    · cases hb
  · rw [hm0 rfl]
    split at hb
    · rename_i h' hh'
      cases hi with
      | some xh =>
        simp only [] at hh'
        obtain ⟨wh, rfl, hwh⟩ := hh _ rfl
        obtain ⟨r3, r4⟩ := up (code := if isSlice then .sliceAcap else .sliceAlen) hwh hh'
        split at hb
        · rename_i xl
          obtain ⟨wl, rfl, hwl⟩ := hl _ rfl
          cases hl' : boundA h' xl with
          | none => simp [hl'] at hb
          | some l' =>
            simp only [hl', Option.map_some, Option.some.injEq, Prod.mk.injEq] at hb
            obtain ⟨rfl, rfl, rfl⟩ := hb
            obtain ⟨r5, r6⟩ := boundA_spec (C := C) (code := .sliceB) hwl hl'
            refine ⟨?_, r6, by omega, fun q' e => by cases e⟩
            simp [Instr.sliceBounds, r3, r5]
        · cases hb
          rw [hl0 rfl]
          refine ⟨?_, Nat.zero_le _, by omega, fun q' e => by cases e⟩
          simp [Instr.sliceBounds, r3]
      | none =>
        simp only [Option.some.injEq] at hh'
        subst hh'
        rw [hh0 rfl]
        split at hb
        · rename_i xl
          obtain ⟨wl, rfl, hwl⟩ := hl _ rfl
          cases hl' : boundA n xl with
          | none => simp [hl'] at hb
          | some l' =>
            simp only [hl', Option.map_some, Option.some.injEq, Prod.mk.injEq] at hb
            obtain ⟨rfl, rfl, rfl⟩ := hb
            obtain ⟨r5, r6⟩ := boundA_spec (C := C) (code := .sliceB) hwl hl'
            refine ⟨?_, r6, Nat.le_refl _, fun q' e => by cases e⟩
            simp [Instr.sliceBounds, r5]
        · cases hb
          rw [hl0 rfl]
          refine ⟨?_, Nat.zero_le _, Nat.le_refl _, fun q' e => by cases e⟩
          simp [Instr.sliceBounds]
    · cases hb

theorem VI.sub {cs : List AVal} {vs : Nat → Value} {b o : Nat} (hI : I b)
    (h1 : ∀ (j : Nat) (a : AVal), cs[j]? = some a → w.cell? ⟨b, o + j, none⟩ = some (vs j) ∧ (vs j).oneCell' = true)
    (h2 : ∀ (j : Nat) (a : AVal), cs[j]? = some a → VI I w a (vs j)) {n c d k : Nat} (hn : n ≤ c) :
    VI I w (.imm n ((cs.drop d).take k)) (.slice (some ⟨b, o + d, none⟩) n c) := by
  have get : ∀ (j : Nat) (a : AVal), ((cs.drop d).take k)[j]? = some a → cs[d + j]? = some a := fun j a hj => by
    rw [List.getElem?_take] at hj
    split at hj
    · simpa using hj
    · cases hj
  refine .imm n c b (o + d) _ (fun j => vs (d + j)) hI hn (fun j a hj => ?_) (fun j a hj => h2 _ a (get j a hj))
  rw [Nat.add_assoc]
  exact h1 _ a (get j a hj)

theorem sliceA_sound (hm : MemR ρ I w m) {t : TypeId} {x y : AVal} {v : Value} {lo hi mx : Option AVal} {vl vh vm : Option Value} (hv : VR ρ I w x v)
    (hl : ∀ x, lo = some x → ∃ v, vl = some v ∧ VR ρ I w x v) (hl0 : lo = none → vl = none)
    (hh : ∀ x, hi = some x → ∃ v, vh = some v ∧ VR ρ I w x v) (hh0 : hi = none → vh = none)
    (hx : ∀ x, mx = some x → ∃ v, vm = some v ∧ VR ρ I w x v) (hx0 : mx = none → vm = none)
    (h : sliceA C.P t x lo hi mx m = some y) : ∃ u, (Instr.sliceAt t v vl vh vm).run C.P w = .ok u w ∧ VR ρ I w y u := by
  unfold sliceA at h
  split at h
  · rename_i e hu
    split at h
    · rename_i sz hs
      have hgo : ∀ (a : Option Addr) (n c l h' : Nat) (k : Option Nat), n ≤ c → boundsA n lo hi mx = some (l, h', k) →
          (Instr.sliceAt t (.slice a n c) vl vh vm).run C.P w = .ok (.slice (if k.getD c = l then a else a.map (·.add (l * sz))) (h' - l) (k.getD c - l)) w ∧ l ≤ h' ∧ h' ≤ n ∧ (∀ q, k = some q → h' ≤ q ∧ q ≤ n) := by
        intro a n c l h' k hnc hb
        obtain ⟨r1, r2, r3, r4⟩ := boundsA_spec (C := C) (isSlice := true) hnc hl hl0 hh hh0 hx hx0 hb
        refine ⟨?_, r2, r3, r4⟩
        simp [Instr.sliceAt, run_underlying' w hu, Instr.slice, r1, run_sizeOf' w hs]
      split at h
      · have := hv.nils_inv
        subst this
        split at h
        · rename_i p hb
          cases h
          obtain ⟨l, h', k⟩ := p
          obtain ⟨r1, r2, r3, r4⟩ := hgo none 0 0 l h' k (Nat.le_refl _) hb
          have : k.getD 0 = 0 := by cases k with | none => rfl | some q => exact Nat.le_zero.1 (r4 q rfl).2
          have h0 : h' = 0 := by omega
          have l0 : l = 0 := by omega
          subst h0; subst l0
          refine ⟨_, r1, ?_⟩
          rw [this]
          exact .vi _ _ .nils
        · cases h
      · obtain ⟨a, rfl⟩ := hv.emp_inv
        split at h
        · rename_i p hb
          cases h
          obtain ⟨l, h', k⟩ := p
          obtain ⟨r1, r2, r3, r4⟩ := hgo a 0 0 l h' k (Nat.le_refl _) hb
          have : k.getD 0 = 0 := by cases k with | none => rfl | some q => exact Nat.le_zero.1 (r4 q rfl).2
          have h0 : h' = 0 := by omega
          have l0 : l = 0 := by omega
          subst h0; subst l0
          refine ⟨_, r1, ?_⟩
          rw [this]
          exact .vi _ _ (.emp _)
        · cases h
      · rename_i n cs
        split at h
        · rename_i l h' hb
          cases h
          cases hv.imm_inv with
          | imm0 a c =>
            obtain ⟨r1, r2, r3, r4⟩ := hgo a 0 c l h' none (Nat.zero_le _) hb
            have h0 : h' = 0 := by omega
            have l0 : l = 0 := by omega
            subst h0; subst l0
            refine ⟨_, r1, .vi _ _ ?_⟩
            simpa using VI.imm0 (I := I) (w := w) _ _
          | imm _ c b o _ vs hI hn h1 h2 =>
            obtain ⟨r1, r2, r3, r4⟩ := hgo (some ⟨b, o, none⟩) n c l h' none hn hb
            refine ⟨_, r1, .vi _ _ ?_⟩
            simp only [Option.getD_none, Option.map_some, add_none]
            by_cases hcl : c = l
            · rw [if_pos hcl]
              have : h' - l = 0 := by omega
              rw [this]
              simpa using VI.imm0 (I := I) (w := w) _ _
            · rw [if_neg hcl]
              exact VI.sub hI h1 h2 (by omega)
        · rename_i l h' k hb
          split at h
          · rename_i hkl
            cases h
            have key : ∀ (a : Option Addr) (c : Nat), n ≤ c → ∃ u, (Instr.sliceAt t (.slice a n c) vl vh vm).run C.P w = .ok u w ∧ VR ρ I w .emp u := by
              intro a c hnc
              obtain ⟨r1, r2, r3, r4⟩ := hgo a n c l h' (some k) hnc hb
              have := r4 k rfl
              refine ⟨_, r1, ?_⟩
              simp only [Option.getD_some, hkl, if_true]
              have : h' - l = 0 := by omega
              rw [this, Nat.sub_self]
              exact .vi _ _ (.emp _)
            cases hv.imm_inv with
            | imm0 a c => exact key a c (Nat.zero_le _)
            | imm _ c b o _ vs hI hn h1 h2 => exact key _ c hn
          · rename_i hkl
            cases h
            cases hv.imm_inv with
            | imm0 a c =>
              obtain ⟨r1, r2, r3, r4⟩ := hgo a 0 c l h' (some k) (Nat.zero_le _) hb
              have := r4 k rfl
              exact absurd (by omega) hkl
            | imm _ c b o _ vs hI hn h1 h2 =>
              obtain ⟨r1, r2, r3, r4⟩ := hgo (some ⟨b, o, none⟩) n c l h' (some k) hn hb
              have := r4 k rfl
              refine ⟨_, r1, .vi _ _ ?_⟩
              simp only [Option.getD_some, if_neg hkl, Option.map_some, add_none]
              exact VI.sub hI h1 h2 (by omega)
        · cases h
      · rename_i id off n s
        split at h
        · rename_i hse
          subst hse
          split at h
          · rename_i l h' hb
            cases h
            cases hv with
            | vi _ _ hv => cases hv
            | own0 _ _ _ a x hr =>
              obtain ⟨r1, r2, r3, r4⟩ := hgo a 0 0 l h' none (Nat.le_refl _) hb
              have h0 : h' = 0 := by omega
              have l0 : l = 0 := by omega
              subst h0; subst l0
              refine ⟨_, r1, ?_⟩
              simpa using VR.own0 (ρ := ρ) (I := I) (w := w) id off s a x hr
            | own _ _ _ _ c b base cur el fr hr hb' hn hcap =>
              obtain ⟨r1, r2, r3, r4⟩ := hgo (some ⟨b, base + off, none⟩) n c l h' none hn hb
              refine ⟨_, r1, ?_⟩
              simp only [Option.getD_none, Option.map_some, add_none]
              by_cases hcl : c = l
              · rw [if_pos hcl]
                have e1 : h' - l = 0 := by omega
                have e2 : c - l = 0 := by omega
                rw [e1, e2]
                exact .own0 _ _ _ _ _ hr
              · rw [if_neg hcl, Nat.add_assoc]
                refine .own id _ _ _ _ b base cur el fr hr hb' (by omega) ?_
                have : l * s + (c - l) * s = c * s := by rw [← Nat.add_mul]; congr 1; omega
                omega
          · rename_i l h' k hb
            split at h
            · rename_i hkl
              cases h
              have key : ∀ (a : Option Addr) (c : Nat), n ≤ c → ∃ u, (Instr.sliceAt t (.slice a n c) vl vh vm).run C.P w = .ok u w ∧ VR ρ I w .emp u := by
                intro a c hnc
                obtain ⟨r1, r2, r3, r4⟩ := hgo a n c l h' (some k) hnc hb
                have := r4 k rfl
                refine ⟨_, r1, ?_⟩
                simp only [Option.getD_some, hkl, if_true]
                have : h' - l = 0 := by omega
                rw [this, Nat.sub_self]
                exact .vi _ _ (.emp _)
              cases hv with
              | vi _ _ hv => cases hv
              | own0 _ _ _ a x hr => exact key a 0 (Nat.le_refl _)
              | own _ _ _ _ c b base cur el fr hr hb' hn hcap => exact key _ c hn
            · rename_i hkl
              cases h
              cases hv with
              | vi _ _ hv => cases hv
              | own0 _ _ _ a x hr =>
                obtain ⟨r1, r2, r3, r4⟩ := hgo a 0 0 l h' (some k) (Nat.le_refl _) hb
                have := r4 k rfl
                exact absurd (by omega) hkl
              | own _ _ _ _ c b base cur el fr hr hb' hn hcap =>
                obtain ⟨r1, r2, r3, r4⟩ := hgo (some ⟨b, base + off, none⟩) n c l h' (some k) hn hb
                have := r4 k rfl
                refine ⟨_, r1, ?_⟩
                simp only [Option.getD_some, if_neg hkl, Option.map_some, add_none]
                rw [Nat.add_assoc]
                refine .own id _ _ _ _ b base cur el fr hr hb' (by omega) ?_
                have e1 : l * s + (k - l) * s = k * s := by rw [← Nat.add_mul]; congr 1; omega
                have e2 : k * s ≤ c * s := Nat.mul_le_mul_right _ (by omega)
                omega
          · cases h
        · cases h
      · cases h
    · cases h
  · rename_i n e hu
    split at h
    · rename_i sz hs
      split at h
      · rename_i id off l h' hb
        split at h
        · rename_i hc
          cases h
          obtain ⟨b, base, hr, rfl⟩ := hv.ptr_inv
          obtain ⟨b', base', cur, el, fr, g1, g2, g3⟩ := hm.live hc.1
          rw [hr] at g1
          cases g1
          obtain ⟨r1, r2, r3, r4⟩ := boundsA_spec (C := C) (isSlice := false) (Nat.le_refl n) hl hl0 hh hh0 hx hx0 hb
          refine ⟨.slice (some (if n = l then ⟨b, base + off, none⟩ else ⟨b, base + off + l * sz, none⟩)) (h' - l) (n - l), ?_, ?_⟩
          · simp [Instr.sliceAt, run_underlying' w hu, Instr.sureAddr, r1, run_sizeOf' w hs, add_none]
          · by_cases hnl : n = l
            · have e1 : h' - l = 0 := by omega
              have e2 : n - l = 0 := by omega
              rw [e1, e2]
              exact .own0 _ _ _ _ _ hr
            · rw [if_neg hnl, Nat.add_assoc]
              refine .own id _ _ _ _ b base cur el fr hr g2 (by omega) ?_
              have : l * sz + (n - l) * sz = n * sz := by rw [← Nat.add_mul]; congr 1; omega
              omega
        · cases h
      · rename_i cs l h' hb
        cases h
        cases hv.iptr_inv with
        | iptr b o _ vs hI h1 h2 =>
          obtain ⟨r1, r2, r3, r4⟩ := boundsA_spec (C := C) (isSlice := false) (Nat.le_refl n) hl hl0 hh hh0 hx hx0 hb
          refine ⟨.slice (some (if n = l then ⟨b, o, none⟩ else ⟨b, o + l * sz, none⟩)) (h' - l) (n - l), ?_, .vi _ _ ?_⟩
          · simp [Instr.sliceAt, run_underlying' w hu, Instr.sureAddr, r1, run_sizeOf' w hs, add_none]
          · by_cases hnl : n = l
            · have e1 : h' - l = 0 := by omega
              rw [e1]
              simpa using VI.imm0 (I := I) (w := w) _ _
            · rw [if_neg hnl]
              exact VI.sub hI h1 h2 (by omega)
      · cases h
    · cases h
  · rename_i hu
    split at h
    · rename_i s l h' hb
      cases h
      have := hv.str_inv
      subst this
      obtain ⟨r1, r2, r3, r4⟩ := boundsA_spec (C := C) (isSlice := false) (Nat.le_refl s.size) hl hl0 hh hh0 hx hx0 hb
      have hmx : mx = none := by
        cases mx with
        | none => rfl
        | some q =>
          exfalso
          unfold boundsA at hb
          simp only [] at hb
          split at hb
          · split at hb
            · split at hb
              · simp [Option.map_eq_some_iff] at hb
              · simp at hb
            · cases hb
          · cases hb
      have hvm : vm = none := hx0 hmx
      subst hvm
      exact ⟨_, by simp [Instr.sliceAt, run_underlying' w hu, Instr.slice, r1], .vi _ _ (.str _)⟩
    · cases h
  · cases h
end
end Go.Ab
end
section
/- The abstract machine, sixth part: append; every operation at once. -/
set_option linter.unusedVariables false
set_option linter.unusedSimpArgs false
namespace Go.Ab
section
variable {C : Cfg} {ρ : Ren} {I : Nat → Prop} {w : World} {m : Mem}

theorem MemR.kill (h : MemR ρ I w m) (id : Nat) : MemR ρ I w { m with mode := upd m.mode id .dead } := by
  have hm : ∀ i, upd m.mode id Md.dead i ≠ .dead → upd m.mode id Md.dead i = m.mode i := fun i hi => by
    unfold upd at hi ⊢; split at hi
    · exact absurd rfl hi
    · rename_i hne; rw [if_neg hne]
  refine ⟨fun i o a hl ha => h.cells i o a (by rw [← hm i hl]; exact hl) ha, fun i hi => ?_, fun i hi => ?_, fun i i' b b1 b2 q1 q2 r1 r2 => ?_, h.imm⟩
  · have := hm i (by simp only [] at hi; rw [hi]; simp); simp only [] at hi; exact h.rw i (by rw [← this]; exact hi)
  · have := hm i (by simp only [] at hi; rw [hi]; simp); simp only [] at hi; exact h.ro i (by rw [← this]; exact hi)
  · have e1 := hm i (by simp only [] at q1; rw [q1]; simp)
    have e2 := hm i' (by simp only [] at q2; rw [q2]; simp)
    exact h.inj i i' b b1 b2 (by rw [← e1]; exact q1) (by rw [← e2]; exact q2) r1 r2

theorem Fr.kill {ρ' : Ren} {I' : Nat → Prop} {m' : Mem} {w' : World} (h : Fr ρ I m w ρ' I' m' w') (id : Nat) : Fr ρ I m w ρ' I' { m' with mode := upd m'.mode id .dead } w' :=
  ⟨h.ext, h.size, h.same, fun b hb ⟨i, base, q1, q2⟩ => h.owns b hb ⟨i, base, by
    simp only [] at q1
    unfold upd at q1
    split at q1
    · cases q1
    · exact q1, q2⟩, h.news, h.os, h.tape, h.output⟩

/-- The source of an append. -/
theorem elemsA_spec (hm : MemR ρ I w m) {sz k : Nat} {x : AVal} {news : List AVal} {v : Value} (hv : VR ρ I w x v) (h : elemsA sz x m = some (k, news)) :
    ∃ us : List Value, VRs ρ I w news us ∧ OneCells us ∧ us.length = k * sz ∧ (∃ a l c, v = .slice a l c) ∧
      ∀ w2 : World, w2.heap = w.heap → (Builtin.lenOf v).run C.P w2 = .ok k w2 ∧ (Builtin.firstCells sz k v).run C.P w2 = .ok us.toArray w2 := by
  have empty : ∀ (a : Option Addr) (c : Nat) (w2 : World), (Builtin.lenOf (.slice a 0 c)).run C.P w2 = .ok 0 w2 ∧ (Builtin.firstCells sz 0 (.slice a 0 c)).run C.P w2 = .ok #[] w2 := by
    intro a c w2
    refine ⟨by simp [Builtin.lenOf], ?_⟩
    cases a with
    | none => simp [Builtin.firstCells]
    | some a => simp [Builtin.firstCells, loadCells, loadCellsFrom]
  have cellw : ∀ (w2 : World), w2.heap = w.heap → ∀ a, w2.cell? a = w.cell? a := fun w2 e a => by simp [World.cell?, e]
  unfold elemsA at h
  split at h
  · cases h
    have := hv.nils_inv
    subst this
    exact ⟨[], VRs.nil _ _ _, OneCells.nil, by simp, ⟨_, _, _, rfl⟩, fun w2 _ => empty none 0 w2⟩
  · cases h
    obtain ⟨a, rfl⟩ := hv.emp_inv
    exact ⟨[], VRs.nil _ _ _, OneCells.nil, by simp, ⟨_, _, _, rfl⟩, fun w2 _ => empty a 0 w2⟩
  · rename_i n cs
    split at h
    · rename_i hlen
      cases h
      cases hv.imm_inv with
      | imm0 a c => exact ⟨[], VRs.nil _ _ _, OneCells.nil, by simp, ⟨_, _, _, rfl⟩, fun w2 _ => empty a c w2⟩
      | imm _ c b o _ vs hI hn h1 h2 =>
        obtain ⟨us, q0, q1, q2, q3⟩ := VI.row _ vs h1 h2 ρ
        refine ⟨us, q1, q2, by omega, ⟨_, _, _, rfl⟩, fun w2 e => ⟨by simp [Builtin.lenOf], ?_⟩⟩
        exact run_firstCells_some (P := C.P) (w := w2) sz _ ⟨b, o, none⟩ _ c us (by omega) (fun j u hu => by rw [add_none, cellw w2 e]; exact q3 j u hu)
    · cases h
  · rename_i id off n s
    split at h
    · rename_i hc
      obtain ⟨rfl, hl⟩ := hc
      cases hcs : cellsAt m id off (n * s) with
      | none => simp [hcs] at h
      | some cs =>
        simp only [hcs, Option.map_some, Option.some.injEq, Prod.mk.injEq] at h
        obtain ⟨rfl, rfl⟩ := h
        cases hv with
        | vi _ _ hv => cases hv
        | own0 _ _ _ a x hr =>
          obtain ⟨b, base⟩ := x
          obtain ⟨hlen, us, q1, q2, q3⟩ := cellsAt_spec hm hl hr _ _ _ hcs
          have : us = [] := List.eq_nil_of_length_eq_zero (by rw [← q1.1, hlen]; simp)
          subst this
          exact ⟨[], q1, q2, by simp, ⟨_, _, _, rfl⟩, fun w2 _ => empty a 0 w2⟩
        | own _ _ _ _ c b base cur el fr hr hb hn hcap =>
          obtain ⟨hlen, us, q1, q2, q3⟩ := cellsAt_spec hm hl hr _ _ _ hcs
          have hul : us.length = n * s := by rw [← q1.1, hlen]
          refine ⟨us, q1, q2, hul, ⟨_, _, _, rfl⟩, fun w2 e => ⟨by simp [Builtin.lenOf], ?_⟩⟩
          exact run_firstCells_some (P := C.P) (w := w2) s _ ⟨b, base + off, none⟩ _ c us hul (fun j u hu => by rw [add_none, cellw w2 e]; exact q3 j u hu)
    · cases h
  · cases h

theorem run_append_room' {P : Program} {t t' ty e e' : TypeId} {i : TypeInfo} {base : Option Addr} {n c k : Nat} {v : Value} {us : List Value} {w w' : World}
    (hu : P.underlying t = some (.slice e)) (hu' : P.underlying t' = some (.slice e')) (hi : P.info? e = some i)
    (hlen : (Builtin.lenOf v).run P w = .ok k w) (hf : (Builtin.firstCells i.size k v).run P w = .ok us.toArray w) (hroom : n + k ≤ c)
    (hst : (match base with | some a => storeCells (a.add (n * i.size)) us | none => pure ()).run P w = .ok () w') :
    (Builtin.append_ #[t, t'] ty #[.slice base n c, v]).run P w = .ok (.slice base (n + k) c) w' := by
  cases base with
  | none =>
    have hw : w = w' := by simpa using hst
    subst hw
    simp [Builtin.append_, run_underlying' w hu, run_underlying' w hu', sizeOf, run_typeInfo' w hi, hlen, hroom, hf]
  | some a => simp only [] at hst; simp [Builtin.append_, run_underlying' w hu, run_underlying' w hu', sizeOf, run_typeInfo' w hi, hlen, hroom, hf, hst]

theorem run_append_grow' {P : Program} {t t' ty e e' : TypeId} {i : TypeInfo} {z : Value} {base : Option Addr} {n c k : Nat} {v : Value} {olds us : List Value} {w : World}
    (hu : P.underlying t = some (.slice e)) (hu' : P.underlying t' = some (.slice e')) (hi : P.info? e = some i) (hz : i.zero = some z)
    (hlen : (Builtin.lenOf v).run P w = .ok k w) (hf : (Builtin.firstCells i.size k v).run P w.drew = .ok us.toArray w.drew)
    (hfo : (Builtin.firstCells i.size n (.slice base n c)).run P w.drew = .ok olds.toArray w.drew) (hroom : c < n + k)
    (h63 : n + k ≤ maxLen) (hfit : (n + k) * i.bytes ≤ 140737488355328) :
    (Builtin.append_ #[t, t'] ty #[.slice base n c, v]).run P w =
      .ok (.slice (some ⟨w.heap.size, 0, none⟩) (n + k) (grownCap w (n + k) c e))
        (w.drew.alloc (.cells ((olds ++ us).toArray ++ Builtin.zeroCells z.cells (grownCap w (n + k) c e - (n + k))) e)) := by
  have h48 := growslice_fits hroom hfit
  have h1 : ¬ (n + k ≤ c) := by omega
  have h2 : ¬ (9223372036854775807 < ((n : Int) + (k : Int))) := by simp only [maxLen] at h63; omega
  have h3 : ¬ (281474976710656 < Builtin.nextslicecap (n + k) c * i.bytes) := by omega
  simp [-Array.append_assoc, Builtin.append_, run_underlying' w hu, run_underlying' w hu', sizeOf, run_typeInfo' w hi, run_typeInfo' w.drew hi, zeroValue, typeInfo, hi, hz, hlen, h1, h2, h3, Question.forced, hf, hfo, newRow, grownCap]

theorem alloc_grown (hm : MemR ρ I w m) {new : Nat} (hnew : ρ new = none) (hd : m.mode new = .dead) {olds news : List AVal} {vs us : List Value} {z : Array Value} {e : TypeId} {need old sz : Nat}
    (h1 : VRs ρ I w olds vs) (o1 : OneCells vs) (h2 : VRs ρ I w news us) (o2 : OneCells us) (hz : z.size = sz) (hl : vs.length + us.length = need * sz) {r : Result Next}
    (hr : r = .ok (.value (.slice (some ⟨w.heap.size, 0, none⟩) need (grownCap w need old e))) (w.drew.alloc (.cells ((vs ++ us).toArray ++ Builtin.zeroCells z (grownCap w need old e - need)) e))) :
    OpOut ρ I m w new r (.own new 0 need sz) (newBlk m new (olds ++ news)) := by
  generalize hc : grownCap w need old e = cap at hr
  have hge : need ≤ cap := by rw [← hc]; exact grownCap_ge w need old e
  have l1 := h1.1
  have l2 := h2.1
  have hsize : ((vs ++ us).toArray ++ Builtin.zeroCells z (cap - need)).size = cap * sz := by
    simp only [Array.size_append, List.size_toArray, List.length_append, size_zeroCells, hz]
    rw [hl, ← Nat.add_mul]
    congr 1
    omega
  have htake : ((vs ++ us).toArray ++ Builtin.zeroCells z (cap - need)).toList.take (olds ++ news).length = vs ++ us := by
    simp only [Array.toList_append, List.length_append, l1, l2]
    rw [← List.length_append]
    exact List.take_left
  obtain ⟨g1, g2⟩ := hm.drew.alloc hnew hd (cs := olds ++ news) (cur := (vs ++ us).toArray ++ Builtin.zeroCells z (cap - need)) (e := e)
    (by rw [htake]; exact (h1.append h2).ext (drew_ext ρ I w)) (by rw [htake]; exact o1.append o2)
  refine ⟨_, _, _, .inl hr, g1, ?_, Fr.drew.trans g2, fun id hne => by simp [upd, hne]⟩
  exact .own new 0 need sz cap w.heap.size 0 _ e (0, 0) (by simp [upd]) (heap_alloc_new w.drew _) hge (by rw [hsize]; omega)

theorem appendA_sound (hm : MemR ρ I w m) {t t' ty : TypeId} {s x y : AVal} {vs vx : Value} {new : Nat} {m' : Mem} (hnew : ρ new = none)
    (hs : VR ρ I w s vs) (hx : VR ρ I w x vx) (h : appendA C.P t t' s x m new = some (y, m')) :
    OpOut ρ I m w new ((do pure (.value (← Builtin.append_ #[t, t'] ty #[vs, vx])) : Sem Next).run C.P w) y m' := by
  unfold appendA at h
  split at h
  · rename_i e e' hu hu'
    split at h
    · rename_i i hi
      split at h
      · rename_i zc k news hz hel
        obtain ⟨i', z, hi', hz', rfl, _⟩ := zeroA_spec hz
        rw [hi] at hi'
        cases hi'
        obtain ⟨us, q1, q2, q3, ⟨xa, xl, xc, rfl⟩, q4⟩ := elemsA_spec (C := C) hm hx hel
        obtain ⟨r1, r2⟩ := q4 w rfl
        obtain ⟨r3, r4⟩ := q4 w.drew rfl
        split at h
        · rename_i hc
          obtain ⟨hzl, hpos, hd⟩ := hc
          simp only [List.length_map, Array.length_toList] at hzl
          have none0 : ∀ (a : Option Addr), k = 0 → (Builtin.append_ #[t, t'] ty #[.slice a 0 0, .slice xa xl xc]).run C.P w = .ok (.slice a 0 0) w := by
            intro a hk
            subst hk
            have hus : us = [] := List.eq_nil_of_length_eq_zero (by rw [q3]; simp)
            have := run_append_room' (ty := ty) (base := a) (n := 0) (c := 0) hu hu' hi r1 r2 (Nat.le_refl _) (w' := w) (by cases a <;> simp [hus, storeCells])
            simpa using this
          have fresh : ∀ (a : Option Addr), k ≠ 0 → k * i.bytes ≤ 140737488355328 ∧ k ≤ maxLen →
              OpOut ρ I m w new ((do pure (.value (← Builtin.append_ #[t, t'] ty #[.slice a 0 0, .slice xa xl xc])) : Sem Next).run C.P w) (.own new 0 k i.size) (newBlk m new news) := by
            intro a hk hb
            have hf0 : (Builtin.firstCells i.size 0 (.slice a 0 0)).run C.P w.drew = .ok ([] : List Value).toArray w.drew := by
              cases a <;> simp [Builtin.firstCells, loadCells, loadCellsFrom]
            have := run_append_grow' (ty := ty) (base := a) (n := 0) (c := 0) (olds := []) hu hu' hi hz' r1 r4 hf0 (by omega) (by omega) (by simpa using hb.1)
            have := alloc_grown hm hnew hd (olds := []) (VRs.nil _ _ _) OneCells.nil q1 q2 hzl (need := 0 + k) (old := 0) (e := e) (by simp [q3]) (r := (do pure (.value (← Builtin.append_ #[t, t'] ty #[.slice a 0 0, .slice xa xl xc])) : Sem Next).run C.P w) (by rw [Sem.run_bind, this]; rfl)
            simpa using this
          split at h
          · have := hs.nils_inv
            subst this
            split at h
            · rename_i hk
              cases h
              exact OpOut.value hm (by simp [none0 none hk]) hs
            · rename_i hk
              split at h
              · rename_i hb
                cases h
                exact fresh none hk hb
              · cases h
          · obtain ⟨a, rfl⟩ := hs.emp_inv
            split at h
            · rename_i hk
              cases h
              exact OpOut.value hm (by simp [none0 a hk]) hs
            · rename_i hk
              split at h
              · rename_i hb
                cases h
                exact fresh a hk hb
              · cases h
          · rename_i id off n sz
            split at h
            · rename_i hcc
              obtain ⟨rfl, hrw, hne, hend, hb1, hb2⟩ := hcc
              split at h
              · rename_i olds ho
                cases h
                obtain ⟨b, base, cur, el, g1, g2, g3, g4⟩ := hm.rw id hrw
                obtain ⟨hol, os, p1, p2, p3⟩ := cellsAt_spec hm (by simp [hrw]) g1 _ _ _ ho
                have hosl : os.length = n * i.size := by rw [← p1.1, hol]
                have hmode : upd (newBlk m new (olds ++ news)).mode id Md.dead = upd (upd m.mode id Md.dead) new Md.rw := by
                  funext j
                  simp only [newBlk, upd]
                  by_cases hj : j = new
                  · subst hj
                    rw [if_neg (fun e => hne e.symm)]
                    simp
                  · by_cases hj2 : j = id <;> simp [hj, hj2, hne]
                have grow : ∀ (a : Option Addr) (c : Nat), c < n + k → (Builtin.firstCells i.size n (.slice a n c)).run C.P w.drew = .ok os.toArray w.drew →
                    OpOut ρ I m w new ((do pure (.value (← Builtin.append_ #[t, t'] ty #[.slice a n c, .slice xa xl xc])) : Sem Next).run C.P w) (.own new 0 (n + k) i.size)
                      { newBlk m new (olds ++ news) with mode := upd (upd m.mode id .dead) new .rw } := by
                  intro a c hc hf
                  have := run_append_grow' (ty := ty) (base := a) (n := n) (c := c) (olds := os) hu hu' hi hz' r1 r4 hf hc hb2 hb1
                  obtain ⟨v, ρ', w', k1, k2, k3, k4, k5⟩ := alloc_grown hm hnew hd p1 p2 q1 q2 hzl (need := n + k) (old := c) (e := e) (by rw [hosl, q3, ← Nat.add_mul]) (r := (do pure (.value (← Builtin.append_ #[t, t'] ty #[.slice a n c, .slice xa xl xc])) : Sem Next).run C.P w) (by rw [Sem.run_bind, this]; rfl)
                  refine ⟨v, ρ', w', k1, ?_, k3, ?_, k5⟩
                  · have := k2.kill id
                    rw [hmode] at this
                    exact this
                  · have := k4.kill id
                    rw [hmode] at this
                    exact this
                cases hs with
                | vi _ _ hv => cases hv
                | own0 _ _ _ a x' hr =>
                  rw [g1] at hr
                  by_cases hk : k = 0
                  · subst hk
                    have hus : us = [] := List.eq_nil_of_length_eq_zero (by rw [q3]; simp)
                    have hnews : news = [] := List.eq_nil_of_length_eq_zero (by rw [q1.1, hus]; rfl)
                    have holds : olds = [] := List.eq_nil_of_length_eq_zero (by rw [hol]; simp)
                    subst hus
                    obtain ⟨k1, k2⟩ := hm.grow (off := off) (olds := olds) hrw hne hnew hd q1 q2 g1 g3 (by rw [hol]; exact ho) (by rw [hol]; simp; simp at hend; omega)
                    have hself : w.setRow b (cur.toList.take (base + (off + olds.length)) ++ ([] : List Value) ++ cur.toList.drop (base + (off + olds.length) + ([] : List Value).length)).toArray = w := by
                      have : (cur.toList.take (base + (off + olds.length)) ++ ([] : List Value) ++ cur.toList.drop (base + (off + olds.length) + ([] : List Value).length)).toArray = cur := by
                        simp
                      rw [this]
                      exact setRow_self w b cur el (0, 0) g3
                    rw [hself] at k1 k2
                    refine ⟨.slice a 0 0, _, w, .inl (by simp [none0 a rfl]), k1, ?_, k2, fun id hne => by simp [upd, hne]⟩
                    exact .own0 new 0 i.size a (b, base + off) (by simp [upd])
                  · have hos : os = [] := List.eq_nil_of_length_eq_zero (by rw [hosl]; simp)
                    refine grow a 0 (by omega) ?_
                    subst hos
                    cases a <;> simp [Builtin.firstCells, loadCells, loadCellsFrom]
                | own _ _ _ _ c b' base' cur' el' fr hr hb hn hcap =>
                  rw [g1] at hr
                  cases hr
                  rw [g3] at hb
                  cases hb
                  by_cases hroom : n + k ≤ c
                  · have hmul : (n + k) * i.size ≤ c * i.size := Nat.mul_le_mul_right _ hroom
                    rw [Nat.add_mul] at hmul
                    have hfit : base + (off + olds.length) + us.length ≤ cur.size := by rw [hol, q3]; omega
                    obtain ⟨k1, k2⟩ := hm.grow (off := off) (olds := olds) hrw hne hnew hd q1 q2 g1 g3 (by rw [hol]; exact ho) hfit
                    have hst := run_storeCells_at C.P b (base + off + n * i.size) el us 0 cur w g3 (by rw [hol] at hfit; omega) (fun z hz => by
                      obtain ⟨j, hj⟩ := List.getElem?_of_mem hz
                      exact q2 j z hj)
                    have hrun := run_append_room' (ty := ty) (base := some ⟨b, base + off, none⟩) (n := n) (c := c) hu hu' hi r1 r2 hroom (by simp only [add_none]; exact hst)
                    have e1 : base + (off + olds.length) = base + off + n * i.size + 0 := by rw [hol]; omega
                    rw [e1] at k1 k2
                    refine ⟨.slice (some ⟨b, base + off, none⟩) (n + k) c, _, _, .inl (by rw [Sem.run_bind, hrun]; rfl), k1, ?_, k2, fun id hne => by simp [upd, hne]⟩
                    refine .own new 0 (n + k) i.size c b (base + off) _ el (0, 0) (by simp [upd]) (heap_setRow_same g3) hroom ?_
                    simp only [List.size_toArray, List.length_append, List.length_take, List.length_drop, Array.length_toList]
                    rw [hol] at hfit
                    omega
                  · refine grow _ c (by omega) ?_
                    exact run_firstCells_some (P := C.P) (w := w.drew) i.size n ⟨b, base + off, none⟩ n c os hosl (fun j u hu => by rw [add_none, World.cell?_drew]; exact p3 j u hu)
              · cases h
            · cases h
          · cases h
        · cases h
      · cases h
    · cases h
  · cases h

theorem run_eqGuard_int {P : Program} {op : BinOp} {t : TypeId} {x y : Operand} {k k' : IntKind} {a b : Int} (w : World) : (eqGuard op t x y (.int k a) (.int k' b)).run P w = .ok () w := by
  unfold eqGuard; cases op <;> rfl
theorem run_eqGuard_bool {P : Program} {op : BinOp} {t : TypeId} {x y : Operand} {a b : Bool} (w : World) : (eqGuard op t x y (.bool a) (.bool b)).run P w = .ok () w := by
  unfold eqGuard; cases op <;> rfl

theorem run_eqGuard_slice {P : Program} {op : BinOp} {t : TypeId} {x y : Operand} {a : Addr} {n c : Nat} (w : World) : (eqGuard op t x y (.slice (some a) n c) (.slice none 0 0)).run P w = .ok () w := by
  unfold eqGuard; cases op <;> rfl
theorem run_equalIn_slice {P : Program} (w : World) (d : Nat) (t e : TypeId) (a : Addr) (l c : Nat) (h : P.underlying t = some (.slice e)) : (Op.equalIn (d + 1) t (.slice (some a) l c) (.slice none 0 0)).run P w = .ok false w := by
  simp [Op.equalIn, run_underlying h]
theorem run_equal_slice {P : Program} (w : World) (t e : TypeId) (a : Addr) (l c : Nat) (h : P.underlying t = some (.slice e)) : (Op.equal t (.slice (some a) l c) (.slice none 0 0)).run P w = .ok false w := run_equalIn_slice w 9999 t e a l c h
theorem run_eql_slice {P : Program} (w : World) (t e : TypeId) (a : Addr) (l c : Nat) (h : P.underlying t = some (.slice e)) : (binOp .eql t (.slice (some a) l c) (.slice none 0 0)).run P w = .ok (.bool false) w := by
  simp [binOp, run_equal_slice w t e a l c h]
theorem run_neq_slice {P : Program} (w : World) (t e : TypeId) (a : Addr) (l c : Nat) (h : P.underlying t = some (.slice e)) : (binOp .neq t (.slice (some a) l c) (.slice none 0 0)).run P w = .ok (.bool true) w := by
  simp [binOp, run_equal_slice w t e a l c h]

theorem binA_sound {op : BinOp} {t : TypeId} {x y r : AVal} {u v : Value} (hu : VR ρ I w x u) (hv : VR ρ I w y v) (h : binA C.P op t x y = some r) (ox oy : Operand) :
    ∃ z, ((do eqGuard op t ox oy u v; binOp op t u v) : Sem Value).run C.P w = .ok z w ∧ VR ρ I w r z := by
  unfold binA at h
  split at h
  · rename_i k a k' b
    have e1 := hu.int_inv
    have e2 := hv.int_inv
    subst e1
    subst e2
    simp only [Sem.run_bind, run_eqGuard_int, Result.andThen_ok]
    split at h
    · split at h
      · cases h
      · rename_i hb
        cases h
        exact ⟨_, by simp [binOp, Op.shift, hb], .vi _ _ (.int _ _)⟩
    · split at h
      · cases h
      · rename_i hb
        cases h
        exact ⟨_, by simp [binOp, Op.shift, hb], .vi _ _ (.int _ _)⟩
    · split at h
      · rename_i hk
        subst hk
        unfold binInt at h
        split at h
        all_goals first
          | (cases h; exact ⟨_, by simp [binOp, Op.intArith, Op.intCmp], .vi _ _ (.int _ _)⟩)
          | (cases h; exact ⟨_, by simp [binOp, Op.intArith, Op.intCmp], .vi _ _ (.bool _)⟩)
          | (by_cases hb : b = 0
             · rw [if_pos hb] at h; cases h
             · rw [if_neg hb] at h
               cases h
               exact ⟨_, by simp [binOp, Op.intDiv, hb], .vi _ _ (.int _ _)⟩)
          | cases h
      · cases h
  · rename_i a b
    have e1 := hu.bool_inv
    have e2 := hv.bool_inv
    subst e1
    subst e2
    simp only [Sem.run_bind, run_eqGuard_bool, Result.andThen_ok]
    split at h
    · rename_i hut
      cases h
      exact ⟨.bool (a == b), run_eql_bool w t a b hut, .vi _ _ (.bool _)⟩
    · rename_i hut
      cases h
      exact ⟨.bool (!(a == b)), run_neq_bool w t a b hut, .vi _ _ (.bool _)⟩
    · cases h
  · rename_i n cs
    have e2 := hv.nils_inv
    subst e2
    split at h
    · rename_i hn
      have hi := hu.imm_inv
      cases hi with
      | imm0 => omega
      | imm n c b o cs vs hI hnc h1 h2 =>
        simp only [Sem.run_bind, run_eqGuard_slice, Result.andThen_ok]
        split at h
        · rename_i e hut
          cases h
          exact ⟨.bool false, run_eql_slice w t e ⟨b, o, none⟩ n c hut, .vi _ _ (.bool _)⟩
        · rename_i e hut
          cases h
          exact ⟨.bool true, run_neq_slice w t e ⟨b, o, none⟩ n c hut, .vi _ _ (.bool _)⟩
        · cases h
    · cases h
  · cases h

theorem map_some_eq {α : Type} {o : Option AVal} {m m' : Mem} {y : AVal} (h : o.map (fun x => (x, m)) = some (y, m')) : o = some y ∧ m' = m := by
  cases o with
  | none => simp at h
  | some x => simp at h; exact ⟨by rw [h.1], h.2.symm⟩

theorem map_opd {env : Nat → AVal} {ev : Operand → Value} (hE : ∀ x, VR ρ I w (opd C env x) (ev x)) (xs : Array Operand) : VRs ρ I w (xs.toList.map (opd C env)) (xs.map ev).toList := by
  refine ⟨by simp, fun j a v ha hv => ?_⟩
  simp only [List.getElem?_map, Array.toList_map, Option.map_eq_some_iff] at ha hv
  obtain ⟨x, hx, rfl⟩ := ha
  obtain ⟨y, hy, rfl⟩ := hv
  rw [hx] at hy
  cases hy
  exact hE x

theorem opt_opd {env : Nat → AVal} {ev : Operand → Value} (hE : ∀ x, VR ρ I w (opd C env x) (ev x)) (o : Option Operand) :
    (∀ x, o.map (opd C env) = some x → ∃ v, o.map ev = some v ∧ VR ρ I w x v) ∧ (o.map (opd C env) = none → o.map ev = none) := by
  cases o with
  | none => exact ⟨fun x h => by simp at h, fun _ => rfl⟩
  | some y => exact ⟨fun x h => by simp at h; subst h; exact ⟨ev y, rfl, hE y⟩, fun h => by simp at h⟩

theorem builtinA_sound {b : Builtin} {ts : Array TypeId} {ty : TypeId} {consts : Array Bool} {xs : List AVal} {vs : Array Value} {new : Nat} {y : AVal} {m' : Mem} (hm : MemR ρ I w m) (hnew : ρ new = none)
    (hv : VRs ρ I w xs vs.toList) (h : builtinA C b ts.toList xs m new = some (y, m')) :
    ∃ (v : Value) (ρ' : Ren) (w' : World), (builtin b ts ty consts vs).run C.P w = .ok (.value v) w' ∧ MemR ρ' I w' m' ∧ VR ρ' I w' y v ∧ Fr ρ I m w ρ' I m' w' ∧ ∀ (id : Nat), id ≠ new → ρ' id = ρ id := by
  have e0 : vs = vs.toList.toArray := by simp
  have t0 : ts = ts.toList.toArray := by simp
  generalize vs.toList = l at hv e0
  generalize ts.toList = tl at h t0
  subst e0
  subst t0
  unfold builtinA at h
  split at h
  · rename_i t t' s x
    match l, hv with
    | [v1, v2], hv =>
      have h1 := hv.2 0 s v1 rfl rfl
      have h2 := hv.2 1 x v2 rfl rfl
      obtain ⟨u, ρ', w', r1, r2, r3, r4, r5⟩ := appendA_sound (C := C) (ty := ty) hm hnew h1 h2 h
      refine ⟨u, ρ', w', ?_, r2, r3, r4, r5⟩
      rcases r1 with r1 | ⟨r1, _⟩
      · simpa [builtin] using r1
      · exfalso
        simp only [Sem.run_bind] at r1
        cases hr : (Builtin.append_ #[t, t'] ty #[v1, v2]).run C.P w with
        | ok a w1 => simp [hr] at r1
        | halt a w1 => simp [hr] at r1
    | [], hv => simp [VRs] at hv
    | [_], hv => simp [VRs] at hv
    | _ :: _ :: _ :: _, hv => simp [VRs] at hv
  · rename_i t x
    obtain ⟨h1, rfl⟩ := map_some_eq (α := Unit) h
    match l, hv with
    | [v1], hv =>
      obtain ⟨u, r1, r2⟩ := lenA_sound (C := C) (ty := ty) (hv.2 0 x v1 rfl rfl) h1
      exact ⟨u, ρ, w, by simp [builtin, r1], hm, r2, Fr.refl _ _ _ _, fun _ _ => rfl⟩
    | [], hv => simp [VRs] at hv
    | _ :: _ :: _, hv => simp [VRs] at hv
  · rename_i k a k' b
    cases h
    match l, hv with
    | [v1, v2], hv =>
      have h1 := (hv.2 0 _ v1 rfl rfl).int_inv
      have h2 := (hv.2 1 _ v2 rfl rfl).int_inv
      subst h1
      subst h2
      exact ⟨_, ρ, w, by simp [builtin, Builtin.min_, Builtin.min2], hm, .vi _ _ (.int _ _), Fr.refl _ _ _ _, fun _ _ => rfl⟩
    | [], hv => simp [VRs] at hv
    | [_], hv => simp [VRs] at hv
    | _ :: _ :: _ :: _, hv => simp [VRs] at hv
  · rename_i k a k' b
    cases h
    match l, hv with
    | [v1, v2], hv =>
      have h1 := (hv.2 0 _ v1 rfl rfl).int_inv
      have h2 := (hv.2 1 _ v2 rfl rfl).int_inv
      subst h1
      subst h2
      exact ⟨_, ρ, w, by simp [builtin, Builtin.max_, Builtin.max2], hm, .vi _ _ (.int _ _), Fr.refl _ _ _ _, fun _ _ => rfl⟩
    | [], hv => simp [VRs] at hv
    | [_], hv => simp [VRs] at hv
    | _ :: _ :: _ :: _, hv => simp [VRs] at hv
  · cases h

/-- EVERY OPERATION OF THE ABSTRACT MACHINE (calls of functions apart) TELLS WHAT THE MODEL's OPERATION DOES. -/
theorem aOp_sound {o : Oper} {env : Nat → AVal} {ev : Operand → Value} {new : Nat} {y : AVal} {m' : Mem} (hm : MemR ρ I w m) (hnew : ρ new = none)
    (hE : ∀ x, VR ρ I w (opd C env x) (ev x)) (h : aOp C o env m new = some (y, m')) : OpOut ρ I m w new ((execOp ev o).run C.P w) y m' := by
  have gen : (∀ cs b, o.op ≠ .select cs b) → (genericA C o env).map (fun x => (x, m)) = some (y, m') → OpOut ρ I m w new ((execOp ev o).run C.P w) y m' := by
    intro hs hg
    obtain ⟨h1, rfl⟩ := map_some_eq (α := Unit) hg
    obtain ⟨u, r1, r2⟩ := genericA_sound hE hs h1
    exact OpOut.value hm r1 r2
  unfold aOp at h
  split at h
  · rename_i x ho
    cases h
    exact OpOut.value hm (by simp [execOp, ho]) (hE x)
  · rename_i x ho
    cases h
    exact OpOut.value hm (by simp [execOp, ho]) (hE x)
  · rename_i c a b ho
    split at h
    · rename_i t hc
      cases h
      have := hE c
      rw [hc] at this
      have := this.bool_inv
      refine OpOut.value hm (v := if t then ev a else ev b) (by simp [execOp, ho, this, asBool]) ?_
      cases t
      · exact hE b
      · exact hE a
    · cases h
  · rename_i t ho
    have := allocA_sound (C := C) hm h hnew Next.value rfl
    simpa only [execOp, ho] using this
  · rename_i t x ho
    have := boxA_sound (C := C) (t := t) hm (hE x) h hnew
    simpa only [execOp, ho] using this
  · rename_i t parts ho
    obtain ⟨h1, rfl⟩ := map_some_eq (α := Unit) h
    obtain ⟨l1, l2⟩ := partsA_rel hE parts
    obtain ⟨u, r1, r2⟩ := buildA_sound l1 l2 h1
    exact OpOut.value hm (by simp only [execOp, ho, Sem.run_bind, r1]; rfl) r2
  · rename_i t len parts ho
    obtain ⟨l1, l2⟩ := partsA_rel hE parts
    have := buildSliceA_sound (C := C) hm hnew l1 l2 h
    simpa only [execOp, ho] using this
  · rename_i t a ho
    obtain ⟨h1, rfl⟩ := map_some_eq (α := Unit) h
    obtain ⟨u, r1, r2⟩ := loadA_sound hm (hE a) h1
    exact OpOut.value hm (by simp only [execOp, ho, Sem.run_bind, r1]; rfl) r2
  · rename_i t a x ho
    cases hs : storeA C.P t (opd C env a) (opd C env x) m with
    | none => simp [hs] at h
    | some m1 =>
      simp only [hs, Option.map_some, Option.some.injEq, Prod.mk.injEq] at h
      obtain ⟨rfl, rfl⟩ := h
      obtain ⟨w', r1, r2, r3⟩ := storeA_sound hm (hE a) (hE x) hs
      refine ⟨undef, ρ, w', .inr ⟨by simp only [execOp, ho, Sem.run_bind, r1]; rfl, rfl⟩, r2, ?_, r3, fun _ _ => rfl⟩
      exact VR.tup_mk (VRs.nil _ _ _)
  · rename_i x ho
    have hx := hE x
    split at h
    · rename_i id off hc
      cases h
      rw [hc] at hx
      obtain ⟨b, base, hr, hv⟩ := hx.ptr_inv
      rw [hv] at hx
      exact OpOut.value hm (by simp [execOp, ho, hv]) hx
    · rename_i cs hc
      cases h
      rw [hc] at hx
      have hx' := hx.iptr_inv
      generalize hv : ev x = v at hx hx'
      cases hx' with
      | iptr b o' _ vs hI h1 h2 => exact OpOut.value hm (by simp [execOp, ho, hv]) hx
    · rename_i f a b hc
      cases h
      rw [hc] at hx
      obtain ⟨vs, us, hv, _, _⟩ := hx.fn_inv
      rw [hv] at hx
      exact OpOut.value hm (by simp [execOp, ho, hv]) hx
    · cases h
  · rename_i fn first captured ho
    split at h
    case h_2 => cases h
    rename_i f
    cases h
    refine OpOut.value hm (v := .func (.func f) (first.map ev) (captured.map ev)) (by simp [execOp, ho, Instr.makeFunc]) ?_
    have h1 := map_opd hE first
    have h2 := map_opd hE captured
    exact .fn f _ _ _ _ (by simp) (by simp) (fun j a v ha hv => h1.2 j a v ha (by rw [Array.getElem?_toList]; exact hv)) (fun j a v ha hv => h2.2 j a v ha (by rw [Array.getElem?_toList]; exact hv))
  · rename_i t l c ho
    have := makeSliceA_sound (C := C) hm hnew (hE l) (hE c) h
    simpa only [execOp, ho] using this
  · rename_i t x lo hi mx ho
    obtain ⟨h1, rfl⟩ := map_some_eq (α := Unit) h
    obtain ⟨a1, a2⟩ := opt_opd hE lo
    obtain ⟨b1, b2⟩ := opt_opd hE hi
    obtain ⟨c1, c2⟩ := opt_opd hE mx
    obtain ⟨u, r1, r2⟩ := sliceA_sound hm (hE x) a1 a2 b1 b2 c1 c2 h1
    exact OpOut.value hm (by simp only [execOp, ho, Sem.run_bind, r1]; rfl) r2
  · rename_i s x f ho
    obtain ⟨h1, rfl⟩ := map_some_eq (α := Unit) h
    obtain ⟨u, r1, r2⟩ := fieldAddrA_sound (hE x) h1
    exact OpOut.value hm (by simp only [execOp, ho, Sem.run_bind, r1]; rfl) r2
  · rename_i s x f ho
    obtain ⟨h1, rfl⟩ := map_some_eq (α := Unit) h
    obtain ⟨u, r1, r2⟩ := fieldA_sound (hE x) h1
    exact OpOut.value hm (by simp only [execOp, ho, Sem.run_bind, r1]; rfl) r2
  · rename_i t x ix ho
    obtain ⟨h1, rfl⟩ := map_some_eq (α := Unit) h
    obtain ⟨u, r1, r2⟩ := indexAddrA_sound (hE x) (hE ix) h1
    exact OpOut.value hm (by simp only [execOp, ho, Sem.run_bind, r1]; rfl) r2
  · rename_i t x ix ho
    obtain ⟨h1, rfl⟩ := map_some_eq (α := Unit) h
    obtain ⟨u, r1, r2⟩ := indexA_sound (hE x) (hE ix) h1
    exact OpOut.value hm (by simp only [execOp, ho, Sem.run_bind, r1]; rfl) r2
  · rename_i x i ho
    obtain ⟨h1, rfl⟩ := map_some_eq (α := Unit) h
    obtain ⟨u, r1, r2⟩ := extractA_sound (C := C) (hE x) h1
    exact OpOut.value hm (by simp only [execOp, ho, Sem.run_bind, r1]; rfl) r2
  · rename_i c ho
    split at h
    · rename_i b hc
      obtain ⟨u, ρ', w', r1, r2, r3, r4, r5⟩ := builtinA_sound (ty := o.type) (consts := c.args.map fun | .const _ => true | _ => false) hm hnew (map_opd hE c.args) h
      refine ⟨u, ρ', w', .inl ?_, r2, r3, r4, r5⟩
      simp [execOp, ho, resolve, hc, invoke]
      exact r1
    · cases h
  · rename_i op t x z _ ho
    split at h
    · rename_i r hr
      cases h
      obtain ⟨u, r1, r2⟩ := binA_sound (hE x) (hE z) hr x z
      refine OpOut.value hm ?_ r2
      simp only [execOp, ho]
      rw [Sem.run_bind, r1]
      rfl
    · exact gen (by simp [ho]) h
  · rename_i op _ x ho
    split at h
    · rename_i b hx
      cases h
      have v1 := hE x
      rw [hx] at v1
      have v1 := v1.bool_inv
      exact OpOut.value hm (by simp [execOp, ho, v1, Op.unary]) (.vi _ _ (.bool _))
    · rename_i k n hx
      cases h
      have v1 := hE x
      rw [hx] at v1
      have v1 := v1.int_inv
      exact OpOut.value hm (by simp [execOp, ho, v1, Op.unary, Op.intArith]) (.vi _ _ (.int _ _))
    · exact gen (by simp [ho]) h
  · rename_i src dst x ho
    split at h
    · rename_i d k k' n hs hd hx
      cases h
      have v1 := hE x
      rw [hx] at v1
      have v1 := v1.int_inv
      exact OpOut.value hm (by simp [execOp, ho, v1, convert, run_underlying' w hs, run_underlying' w hd, Conv.intToInt]) (.vi _ _ (.int _ _))
    · exact gen (by simp [ho]) h
  · cases h
end
end Go.Ab
end
section
/- The abstract machine, seventh part: regions, code, calls: definitions. -/
set_option linter.unusedVariables false
namespace Go.Ab

def setOpt (env : Nat → AVal) (dst : Option Tmp) (v : AVal) : Nat → AVal :=
  match dst with
  | some d => upd env d v
  | none => env

def wantedA (ops : Array Oper) (env : Nat → AVal) (o : Oper) : Option Bool :=
  match o.guard with
  | none => some true
  | some (j, want) => match (ops[j]?).bind (·.dst) with
    | none => some false
    | some t => match env t with
      | .bool b => some (b == want)
      | .tup [] => some false
      | _ => none

abbrev CallF := FuncId → List AVal → Mem → Option (AVal × Mem)

/-- The operation, where it is a call of a function. -/
def callOf (o : Oper) : Option (Operand × List Operand) :=
  match o.op with
  | .call c => match c.callee with
    | .value f => some (f, c.args.toList)
    | _ => none
  | _ => none

def aStep (C : Cfg) (call : CallF) (ops : Array Oper) (base i : Nat) (s : St) : Option St :=
  match ops[i]? with
  | none => none
  | some o => match wantedA ops s.env o with
    | none => none
    | some false => some ⟨setOpt s.env o.dst (.tup []), s.mem⟩
    | some true => match callOf o with
      | some (f, args) => match opd C s.env f with
        | .fn g first captured => match call g (first ++ args.map (opd C s.env) ++ captured) s.mem with
          | some (v, m) => some ⟨setOpt s.env o.dst v, m⟩
          | none => none
        | _ => none
      | none => match aOp C o s.env s.mem (base + i) with
        | some (v, m) => some ⟨setOpt s.env o.dst v, m⟩
        | none => none

def aOps (C : Cfg) (call : CallF) (ops : Array Oper) (base : Nat) : List Nat → St → Option St
  | [], s => some s
  | i :: r, s => (aStep C call ops base i s).bind (aOps C call ops base r)

def reserve (s : St) (n : Nat) : St := ⟨s.env, { s.mem with next := s.mem.next + n }⟩

/-- All orders that the model may draw come to what the order of the text comes to. -/
def SameOrders (C : Cfg) (call : CallF) (ops : Array Oper) (base : Nat) (s : St) : Prop :=
  ∀ t : Nat, aOps C call ops base (Region.schedule (C.P.follows .mixedOrders) ops t) s = aOps C call ops base (List.range ops.size) s

open Classical in
noncomputable def aRegion (C : Cfg) (call : CallF) (ops : Array Oper) (draw : Bool) (s : St) : Option St :=
  if draw = true ∧ ¬ SameOrders C call ops s.mem.next (reserve s ops.size) then none
  else aOps C call ops s.mem.next (List.range ops.size) (reserve s ops.size)

inductive AExit where
  | normal
  | exit (id : Nat)
  | ret
  deriving DecidableEq

def aLoop (f : St → Option (AExit × St)) : Nat → St → Option (AExit × St)
  | 0, _ => none
  | k + 1, s => match f s with
    | some (.normal, s1) => aLoop f k s1
    | r => r

def opsOk (nt : Nat) (ops : Array Oper) : Bool := ops.toList.all fun o => match o.dst with
  | some d => decide (d < nt)
  | none => true

/-- No range over a function. -/
def flat : Code → Bool
  | .seq a b => flat a && flat b
  | .cond _ a b => flat a && flat b
  | .block _ c => flat c
  | .loop c => flat c
  | .rangeFunc _ _ _ _ => false
  | _ => true

def codeOk (nt : Nat) : Code → Bool
  | .seq a b => codeOk nt a && codeOk nt b
  | .cond _ a b => codeOk nt a && codeOk nt b
  | .block _ c => codeOk nt c
  | .loop c => codeOk nt c
  | .region _ ops _ => opsOk nt ops
  | .rangeFunc _ ps a b => codeOk nt a && (codeOk nt b && (flat a && (flat b && ps.toList.all fun p => decide (p < nt))))
  | _ => true

/-- The state of an iterator that runs: its own; which of its variables hold the function that it calls for each element; how the loop's body was left. -/
structure YS where
  st : St
  y : List Nat
  p : Option AExit

/-- A round of the loop's body. -/
abbrev YF := List AVal → Mem → Option (Bool × Mem × Option AExit)

def yCallee (y : List Nat) (o : Oper) : Option (List Operand) :=
  match callOf o with
  | some (.tmp t, args) => if t ∈ y then some args else none
  | _ => none

def yMoved (y : List Nat) (o : Oper) : Bool :=
  match o.op with
  | .move (.tmp t) => decide (t ∈ y)
  | .assign (.tmp t) => decide (t ∈ y)
  | _ => false

def yLess (y : List Nat) : Option Tmp → List Nat
  | some d => y.filter fun t => decide (t ≠ d)
  | none => y

def yStep (C : Cfg) (call : CallF) (yh : YF) (ops : Array Oper) (base i : Nat) (x : YS) : Option YS :=
  match ops[i]? with
  | none => none
  | some o => match wantedA ops x.st.env o with
    | none => none
    | some false => (aStep C call ops base i x.st).map fun s => ⟨s, yLess x.y o.dst, x.p⟩
    | some true => match yCallee x.y o with
      | some args => match x.p with
        | none => match yh (args.map (opd C x.st.env)) x.st.mem with
          | some (b, m, p) => some ⟨⟨setOpt x.st.env o.dst (.bool b), m⟩, yLess x.y o.dst, p⟩
          | none => none
        | some _ => none
      | none => (aStep C call ops base i x.st).map fun s => ⟨s, if yMoved x.y o then (match o.dst with
          | some d => d :: yLess x.y o.dst
          | none => x.y) else yLess x.y o.dst, x.p⟩

def yOps (C : Cfg) (call : CallF) (yh : YF) (ops : Array Oper) (base : Nat) : List Nat → YS → Option YS
  | [], x => some x
  | i :: r, x => (yStep C call yh ops base i x).bind (yOps C call yh ops base r)

def yLoop (f : YS → Option (AExit × YS)) : Nat → YS → Option (AExit × YS)
  | 0, _ => none
  | k + 1, x => match f x with
    | some (.normal, x1) => yLoop f k x1
    | r => r

noncomputable def yCode (C : Cfg) (call : CallF) (yh : YF) (n : Nat) : Code → YS → Option (AExit × YS)
  | .skip, x => some (.normal, x)
  | .seq a b, x => match yCode C call yh n a x with
    | some (.normal, x1) => yCode C call yh n b x1
    | r => r
  | .cond c a b, x => match opd C x.st.env c with
    | .bool t => if t then yCode C call yh n a x else yCode C call yh n b x
    | _ => none
  | .block id c, x => match yCode C call yh n c x with
    | some (.exit id', x1) => if id' = id then some (.normal, x1) else some (.exit id', x1)
    | r => r
  | .loop c, x => yLoop (yCode C call yh n c) n x
  | .exit id, x => some (.exit id, x)
  | .ret, x => some (.ret, x)
  | .region _ ops draw, x => if draw then none else (yOps C call yh ops x.st.mem.next (List.range ops.size) ⟨reserve x.st ops.size, x.y, x.p⟩).map fun x1 => (.normal, x1)
  | _, _ => none

def setAll (env : Nat → AVal) : List Tmp → List AVal → Nat → AVal
  | p :: ps, v :: vs => setAll (upd env p v) ps vs
  | _, _ => env

/-- A round, from the variables of the function that ranges. -/
def roundF (env : Nat → AVal) (ps : Array Tmp) (fa fb : St → Option (AExit × St)) : YF := fun args m =>
  if ps.size = args.length then
    match fa ⟨setAll env ps.toList args, m⟩ with
    | some (.normal, s1) => match fb s1 with
      | some (.normal, s2) => some (true, s2.mem, none)
      | some (e, s2) => some (false, s2.mem, some e)
      | none => none
    | _ => none
  else none

def yEnv (captured : List AVal) : Nat → AVal := fun i => ((AVal.junk :: captured)[i]?).getD (.tup [])

/-- What a range over a function comes to. -/
def rangeEnd (env : Nat → AVal) : Option (AExit × YS) → Option (AExit × St)
  | some (.normal, x) => match x.p with
    | none => some (.normal, ⟨env, x.st.mem⟩)
    | some e => some (e, ⟨env, x.st.mem⟩)
  | some (.ret, x) => match x.p with
    | none => some (.normal, ⟨env, x.st.mem⟩)
    | some e => some (e, ⟨env, x.st.mem⟩)
  | _ => none

noncomputable def rangeF (C : Cfg) (call : CallF) (n : Nat) (g : Operand) (ps : Array Tmp) (fa fb : St → Option (AExit × St)) (s : St) : Option (AExit × St) :=
  match opd C s.env g with
  | .fn f [] captured => match C.P.funcs[f]? with
    | some fn => match fn.body with
      | some code => if flat code = true ∧ codeOk fn.ntmps code = true ∧ captured.length + 1 ≤ fn.ntmps ∧ (fn.name == "runtime.NumGoroutine") = false ∧ fn.results.toList.isEmpty = true then
          rangeEnd s.env (yCode C call (roundF s.env ps fa fb) n code ⟨⟨yEnv captured, s.mem⟩, [0], none⟩)
        else none
      | none => none
    | none => none
  | _ => none

noncomputable def aCode (C : Cfg) (call : CallF) (n : Nat) : Code → St → Option (AExit × St)
  | .skip, s => some (.normal, s)
  | .seq a b, s => match aCode C call n a s with
    | some (.normal, s1) => aCode C call n b s1
    | r => r
  | .cond c a b, s => match opd C s.env c with
    | .bool t => if t then aCode C call n a s else aCode C call n b s
    | _ => none
  | .block id c, s => match aCode C call n c s with
    | some (.exit id', s1) => if id' = id then some (.normal, s1) else some (.exit id', s1)
    | r => r
  | .loop c, s => aLoop (aCode C call n c) n s
  | .exit id, s => some (.exit id, s)
  | .ret, s => some (.ret, s)
  | .region _ ops draw, s => (aRegion C call ops draw s).map fun s1 => (.normal, s1)
  | .rangeFunc g ps a b, s => rangeF C call n g ps (aCode C call n a) (aCode C call n b) s
  | _, _ => none

def resultA (C : Cfg) (s : St) : ResultVar → Option AVal
  | .tmp t => some (s.env t)
  | .cell a t => match s.env a with
    | .ptr id off => loadA C.P t (.ptr id off) s.mem
    | _ => none

def resultsA (C : Cfg) (s : St) : List ResultVar → Option (List AVal)
  | [] => some []
  | r :: rs => match resultA C s r, resultsA C s rs with
    | some v, some vs => some (v :: vs)
    | _, _ => none

def packA : List AVal → AVal
  | [x] => x
  | xs => .tup xs

noncomputable def aBody (C : Cfg) (call : CallF) (n : Nat) (f : FuncId) (args : List AVal) (m : Mem) : Option (AVal × Mem) :=
  match C.P.funcs[f]? with
  | none => none
  | some fn => match fn.body with
    | none => none
    | some code =>
      if codeOk fn.ntmps code = true ∧ args.length ≤ fn.ntmps ∧ (fn.name == "runtime.NumGoroutine") = false then
        match aCode C call n code ⟨fun i => (args[i]?).getD (.tup []), m⟩ with
        | some (.normal, s) => (resultsA C s fn.results.toList).map fun vs => (packA vs, s.mem)
        | some (.ret, s) => (resultsA C s fn.results.toList).map fun vs => (packA vs, s.mem)
        | _ => none
      else none

def freezeL (fr : AVal → Mem → Option (AVal × Mem)) : List AVal → Mem → Option (List AVal × Mem)
  | [], m => some ([], m)
  | a :: r, m => match fr a m with
    | some (a', m1) => match freezeL fr r m1 with
      | some (r', m2) => some (a' :: r', m2)
      | none => none
    | none => none

/-- A value made immutable, with all that it leads to. -/
def freezeV : Nat → AVal → Mem → Option (AVal × Mem)
  | 0, _, _ => none
  | d + 1, a, m => match a with
    | .own id off n sz => if m.mode id = .dead then none else match cellsAt m id off (n * sz) with
      | some cs => match freezeL (freezeV d) cs { m with mode := upd m.mode id .ro } with
        | some (cs', m2) => some (.imm n cs', m2)
        | none => none
      | none => none
    | .agg cs => match freezeL (freezeV d) cs m with
      | some (cs', m2) => some (.agg cs', m2)
      | none => none
    | .tup cs => match freezeL (freezeV d) cs m with
      | some (cs', m2) => some (.tup cs', m2)
      | none => none
    | .ptr _ _ => none
    | .fn f a b => if a.isEmpty && b.isEmpty then some (.fn f [] [], m) else none
    | a => some (a, m)

def idsOf : AVal → List Nat
  | .ptr id _ => [id]
  | .own id _ _ _ => [id]
  | _ => []

def shown (ng : Nat) (S : List Nat) (id : Nat) : Bool := decide (id < ng) || S.contains id

def restrict (m : Mem) (ng : Nat) (S : List Nat) : Mem where
  cell := fun id o => if shown ng S id then m.cell id o else none
  mode := fun id => if shown ng S id then m.mode id else .dead
  siz := fun id => if shown ng S id then m.siz id else 0
  next := m.next

def unrestrict (m : Mem) (ng : Nat) (S : List Nat) (m' : Mem) : Mem where
  cell := fun id o => if id < m.next ∧ shown ng S id = false then m.cell id o else m'.cell id o
  mode := fun id => if id < m.next ∧ shown ng S id = false then m.mode id else m'.mode id
  siz := fun id => if id < m.next ∧ shown ng S id = false then m.siz id else m'.siz id
  next := m'.next

/-- Values that lead into nothing that may change. -/
def stillB : AVal → Bool
  | .int _ _ | .bool _ | .str _ | .nilp | .nils | .emp | .imm _ _ | .iptr _ => true
  | _ => false

/-- An argument of a function that only reads: a pointer is shown as what lies there. -/
def viewV (m : Mem) : AVal → Option AVal
  | .ptr id off => if m.mode id = .dead then none else match cellsAt m id off (m.siz id - off) with
    | some cs => if cs.all stillB then some (.iptr cs) else none
    | none => none
  | a => if stillB a then some a else none
def viewL (m : Mem) : List AVal → Option (List AVal)
  | [] => some []
  | a :: r => match viewV m a, viewL m r with
    | some x, some xs => some (x :: xs)
    | _, _ => none

/-- Results that bear nothing of memory. -/
def resB : AVal → Bool
  | .int _ _ | .bool _ => true
  | .tup vs => vs.all fun v => match v with
    | .int _ _ | .bool _ => true
    | _ => false
  | _ => false

noncomputable def aCall (C : Cfg) : Nat → CallF
  | 0, _, _, _ => none
  | k + 1, f, args, m => match C.kind f with
    | .plain => aBody C (aCall C k) k f args m
    | .pure => match freezeL (freezeV 8) args m with
      | some (args', m1) => match aBody C (aCall C k) k f args' C.m0 with
        | some (r, m2) => match freezeV 8 r m2 with
          | some (r', _) => some (r', m1)
          | none => none
        | none => none
      | none => none
    | .shallow => match aBody C (aCall C k) k f args (restrict m C.ng (args.flatMap idsOf)) with
      | some (r, m') => some (r, unrestrict m C.ng (args.flatMap idsOf) m')
      | none => none
    | .reader => match viewL m args with
      | some args' => match aBody C (aCall C k) k f args' C.m0 with
        | some (r, m2) => match freezeV 8 r m2 with
          | some (r', _) => if resB r' then some (r', m) else none
          | none => none
        | none => none
      | none => none
    | .ext g => match freezeL (freezeV 8) args m with
      | some (args', m1) => match g args' with
        | some r => some (r, m1)
        | none => none
      | none => none

end Go.Ab
end
section
/- The abstract machine, eighth part: what the abstract machine comes to is what the model's machine comes to, for regions, code and calls. -/
set_option linter.unusedVariables false
set_option linter.unusedSimpArgs false
namespace Go.Ab

/-- The listed globals hold what the configuration says, and never change. -/
def GlobOK (C : Cfg) (I : Nat → Prop) (w : World) : Prop :=
  ∀ g, g < C.ng → C.glob g ≠ [] → I g ∧ ∃ (cur : Array Value) (e : TypeId) (fr : Nat × Nat), w.heap[g]? = some (.cells cur e fr) ∧ (C.glob g).length ≤ cur.size ∧
    ∀ (off : Nat) (a : AVal), (C.glob g)[off]? = some a → ∃ v, cur[off]? = some v ∧ v.oneCell' = true ∧ VI I w a v

theorem GlobOK.ext {C : Cfg} {I I' : Nat → Prop} {w w' : World} (h : GlobOK C I w) (hs : ∀ b, I b → I' b) (hk : ∀ b, I b → w'.heap[b]? = w.heap[b]?) : GlobOK C I' w' := by
  intro g hg hne
  obtain ⟨hI, cur, e, fr, h1, h2, h3⟩ := h g hg hne
  refine ⟨hs g hI, cur, e, fr, (hk g hI).trans h1, h2, fun off a ha => ?_⟩
  obtain ⟨v, g1, g2, g3⟩ := h3 off a ha
  exact ⟨v, g1, g2, g3.ext hs hk⟩

/-- The fences of this machine: all functions, any depth; and the same in a round of a loop. -/
def WideF (F : Fence) : Prop := F = Fence.wide ∨ ∃ l, F = Fence.wide.inRound l
theorem WideF.fn {F : Fence} (h : WideF F) (f : FuncId) : F.fn f := by
  rcases h with rfl | ⟨l, rfl⟩ <;> trivial
theorem WideF.depth {F : Fence} (h : WideF F) {p : Prop} (hs : F.depth.isSome = true) : p := by
  rcases h with rfl | ⟨l, rfl⟩ <;> cases hs
theorem WideF.calls {F : Fence} (h : WideF F) {n : Nat} {P : Program} {f : FuncId} {args : Array Value} {w : World} {R : Ending → World → Prop} (hc : Calls P f args w R) : CallsIn F n P f args w R := by
  rcases h with rfl | ⟨l, rfl⟩
  · exact callsIn_wide.2 hc
  · exact (callsIn_wide.2 hc : CallsIn Fence.wide n P f args w R)
theorem WideF.round {F : Fence} (h : WideF F) (hr : F.round = none) : F = Fence.wide := by
  rcases h with rfl | ⟨l, rfl⟩
  · rfl
  · cases hr

def mark (D : Nat) : Deferred := { target := .collected D, args := #[] }

/-- The marks of the ranges over functions that an activation has gone through. -/
structure Marks (lo : Nat) (I : Nat → Prop) (ds : List Deferred) (w : World) : Prop where
  low : lo ≤ w.heap.size
  is : ∃ Ds : List Nat, ds = Ds.map mark ∧ Ds.Nodup ∧ ∀ D ∈ Ds, lo ≤ D ∧ ¬ I D ∧ w.heap[D]? = some (.deferred (some []))
theorem not_owned {ρ : Ren} {I : Nat → Prop} {w : World} {m : Mem} {D : Nat} {o : Obj} (hm : MemR ρ I w m) (h : w.heap[D]? = some o) (ho : ∀ cur e fr, o ≠ .cells cur e fr) : ¬ Owned ρ m D := by
  rintro ⟨id, base, h1, h2⟩
  obtain ⟨b, base', cur, e, h3, _, h4, _⟩ := hm.rw id h1
  rw [h2] at h3
  cases h3
  rw [h] at h4
  exact ho _ _ _ (Option.some.inj h4)
theorem heap_lt' {w : World} {D : Nat} {o : Obj} (h : w.heap[D]? = some o) : D < w.heap.size := (Array.getElem?_eq_some_iff.1 h).1
theorem Marks.keep {lo : Nat} {I I' : Nat → Prop} {ds : List Deferred} {w w' : World} (h : Marks lo I ds w) (hs : w.heap.size ≤ w'.heap.size) (hk : ∀ D : Nat, ¬ I D → w.heap[D]? = some (.deferred (some [])) → ¬ I' D ∧ w'.heap[D]? = some (.deferred (some []))) : Marks lo I' ds w' := by
  obtain ⟨h1, Ds, h2, h3, h4⟩ := h
  exact ⟨Nat.le_trans h1 hs, Ds, h2, h3, fun D hD => ⟨(h4 D hD).1, hk D (h4 D hD).2.1 (h4 D hD).2.2⟩⟩
theorem Marks.fr {lo : Nat} {ds : List Deferred} {ρ ρ' : Ren} {I I' : Nat → Prop} {w w' : World} {m m' : Mem} (h : Marks lo I ds w) (hm : MemR ρ I w m) (hf : Fr ρ I m w ρ' I' m' w') : Marks lo I' ds w' :=
  h.keep hf.size fun D hi hD => by
    have no := not_owned hm hD (fun _ _ _ e => by cases e)
    have hlt := heap_lt' hD
    refine ⟨fun hi' => ?_, (hf.same D hlt no).trans hD⟩
    rcases hf.news D hlt hi' with q | q
    · exact hi q
    · exact no q

/-- The state of the abstract machine stands for the model's. -/
structure Rel (C : Cfg) (nt lo : Nat) (ρ : Ren) (I : Nat → Prop) (s : St) (a : Act) (w : World) : Prop where
  mem : MemR ρ I w s.mem
  env : ∀ t, VR ρ I w (s.env t) (a.tmps.getD t undef)
  size : a.tmps.size = nt
  defers : Marks lo I a.defers w
  globals : ∀ g, g < C.ng → ρ g = some (g, 0)
  glob : GlobOK C I w
  fresh : ∀ id, s.mem.next ≤ id → ρ id = none

/-- What a call comes to. -/
def CallPost (C : Cfg) (ρ : Ren) (I : Nat → Prop) (m : Mem) (w : World) (r : AVal) (m' : Mem) (e : Ending) (w' : World) : Prop :=
  ∃ (v : Value) (ρ' : Ren) (I' : Nat → Prop), e = .returned v ∧ MemR ρ' I' w' m' ∧ VR ρ' I' w' r v ∧ Fr ρ I m w ρ' I' m' w' ∧
    (∀ id, m'.next ≤ id → ρ' id = none) ∧ (∀ id, id < m.next → ρ' id = ρ id) ∧ m.next ≤ m'.next

def CallSound (C : Cfg) (call : CallF) : Prop :=
  ∀ (f : FuncId) (args : List AVal) (m : Mem) (r : AVal) (m' : Mem), call f args m = some (r, m') →
    (C.P.funcs[f]?).bind (·.body) ≠ none ∧ (∀ fn, C.P.funcs[f]? = some fn → (fn.name == "runtime.NumGoroutine") = false) ∧
    ∀ (ρ : Ren) (I : Nat → Prop) (w : World) (vs : Array Value), MemR ρ I w m → (∀ g, g < C.ng → ρ g = some (g, 0)) → GlobOK C I w → (∀ id, m.next ≤ id → ρ id = none) →
      VRs ρ I w args vs.toList → Calls C.P f vs w (CallPost C ρ I m w r m')

section
variable {C : Cfg} {nt lo : Nat} {ρ : Ren} {I : Nat → Prop} {w : World}

theorem Rel.opd {s : St} {a : Act} (h : Rel C nt lo ρ I s a w) (x : Operand) : VR ρ I w (opd C s.env x) (a.eval x) := by
  cases x with
  | tmp t => exact h.env t
  | const v => exact .vi _ _ (VI.ofValue I w v)
  | global g =>
    show VR ρ I w (if g < C.ng then .ptr g 0 else .junk) _
    split
    · rename_i hg; exact .ptr g 0 g 0 (h.globals g hg)
    · exact .vi _ _ (.junk _)
  | func f => exact .vi _ _ (.fn f [] [] #[] #[] rfl rfl (fun j a v ha => by simp at ha) (fun j a v ha => by simp at ha))

theorem env_put {env : Nat → AVal} {a : Act} {dst : Option Tmp} {x : AVal} {v : Value} (h : ∀ t, VR ρ I w (env t) (a.tmps.getD t undef)) (hd : ∀ d, dst = some d → d < a.tmps.size) (hx : VR ρ I w x v) :
    ∀ t, VR ρ I w (setOpt env dst x t) ((a.put dst v).tmps.getD t undef) := by
  intro t
  cases dst with
  | none => exact h t
  | some d =>
    simp only [setOpt, upd, Act.put]
    by_cases ht : t = d
    · subst ht
      rw [if_pos rfl]
      have := hd t rfl
      simp [this]
      exact hx
    · rw [if_neg ht]
      have := h t
      simp only [Array.getD_eq_getD_getElem?] at this ⊢
      rw [Array.getElem?_setIfInBounds_ne (fun e => ht e.symm)]
      exact this

theorem put_size (a : Act) (dst : Option Tmp) (v : Value) : (a.put dst v).tmps.size = a.tmps.size := by
  cases dst <;> simp [Act.put]
theorem put_defers (a : Act) (dst : Option Tmp) (v : Value) : (a.put dst v).defers = a.defers := by
  cases dst <;> rfl

theorem wantedA_sound {ops : Array Oper} {s : St} {a : Act} {o : Oper} {b : Bool} (h : Rel C nt lo ρ I s a w) (hw : wantedA ops s.env o = some b) :
    Region.wanted o (yielded ops a.tmps) = b := by
  unfold wantedA at hw
  unfold Region.wanted
  split at hw
  · rename_i hg; cases hw; rw [hg]
  · rename_i j want hg
    rw [hg]
    simp only []
    split at hw
    · rename_i hd
      cases hw
      simp [yielded, hd]
    · rename_i t hd
      have ht := h.env t
      split at hw
      · rename_i b' hb
        cases hw
        rw [hb] at ht
        have hv := ht.bool_inv
        have : a.tmps[t]? = some (.bool b') := by
          cases hq : a.tmps[t]? with
          | none => simp [Array.getD_eq_getD_getElem?, hq, undef] at hv
          | some q => simp [Array.getD_eq_getD_getElem?, hq] at hv; rw [hv]
        simp [yielded, hd, this]
      · rename_i hb
        cases hw
        rw [hb] at ht
        obtain ⟨vs, hv, _⟩ := ht.tup_inv
        have : yielded ops a.tmps j = none := by
          simp only [yielded, hd, Option.bind_some]
          cases hq : a.tmps[t]? with
          | none => rfl
          | some q =>
            have : q = .tuple vs := by simpa [Array.getD_eq_getD_getElem?, hq] using hv
            subst this
            rfl
        simp [this]
      · cases hw

/-- What is not an effect of the region's own. -/
structure Frame1 (base n : Nat) (done : Nat → Prop) (ρ ρ' : Ren) (m : Mem) : Prop where
  low : ∀ id, id < base → ρ' id = ρ id
  undone : ∀ j, j < n → ¬ done j → ρ' (base + j) = none

theorem callOf_spec {o : Oper} {f : Operand} {args : List Operand} (h : callOf o = some (f, args)) : ∃ c, o.op = .call c ∧ c.callee = .value f ∧ c.args.toList = args := by
  unfold callOf at h
  split at h
  · rename_i c ho
    split at h
    · rename_i f' hc
      cases h
      exact ⟨c, ho, hc, rfl⟩
    · cases h
  · cases h

theorem aOp_next {o : Oper} {env : Nat → AVal} {m m' : Mem} {new : Nat} {y : AVal} (h : aOp C o env m new = some (y, m')) : m'.next = m.next := by
  have gen : ∀ {x : Option AVal}, x.map (fun z => (z, m)) = some (y, m') → m'.next = m.next := by
    intro x hx
    obtain ⟨_, rfl⟩ := map_some_eq (α := Unit) hx
    rfl
  unfold aOp at h
  split at h
  case h_1 => cases h; rfl
  case h_2 => cases h; rfl
  case h_3 => split at h <;> cases h <;> rfl
  case h_4 =>
    unfold allocA at h
    split at h
    · split at h
      · cases h; rfl
      · cases h
    · cases h
  case h_5 =>
    unfold boxA at h
    split at h
    · cases h; rfl
    · cases h
  case h_6 => exact gen h
  case h_7 =>
    unfold buildSliceA at h
    repeat' (split at h)
    all_goals (cases h <;> rfl)
  case h_8 => exact gen h
  case h_9 =>
    rename_i t a x ho
    cases hs : storeA C.P t (Go.Ab.opd C env a) (Go.Ab.opd C env x) m with
    | none => simp [hs] at h
    | some m1 =>
      simp only [hs, Option.map_some, Option.some.injEq, Prod.mk.injEq] at h
      obtain ⟨_, rfl⟩ := h
      unfold storeA at hs
      repeat' (split at hs)
      all_goals (cases hs <;> rfl)
  case h_10 => split at h <;> cases h <;> rfl
  case h_11 =>
    split at h
    · cases h; rfl
    · cases h
  case h_12 =>
    unfold makeSliceA at h
    repeat' (split at h)
    all_goals (cases h <;> rfl)
  case h_13 => exact gen h
  case h_14 => exact gen h
  case h_15 => exact gen h
  case h_16 => exact gen h
  case h_17 => exact gen h
  case h_18 => exact gen h
  case h_19 =>
    split at h
    · unfold builtinA at h
      split at h
      · unfold appendA at h
        repeat' (split at h)
        all_goals (cases h <;> rfl)
      · exact gen h
      · cases h; rfl
      · cases h; rfl
      · cases h
    · cases h
  case h_20 =>
    split at h
    · cases h; rfl
    · exact gen h
  case h_21 =>
    split at h
    · cases h; rfl
    · cases h; rfl
    · exact gen h
  case h_22 =>
    split at h
    · cases h; rfl
    · exact gen h
  case h_23 => cases h

theorem aOp_defer {o : Oper} {env : Nat → AVal} {m m' : Mem} {new : Nat} {y : AVal} (h : aOp C o env m new = some (y, m')) : ∀ c, o.op ≠ .defer c := by
  intro c hc
  simp [aOp, genericA, hc] at h

/-- An operation of a region, in the fenced walk. -/
def wpOpI (F : Fence) (n : Nat) (P : Program) (ops : Array Oper) (Q : Exit → Act → World → Prop) (i : Nat) (K : Act → World → Prop) (a : Act) (w : World) : Prop :=
  match ops[i]? with
  | none => K a w
  | some o => if Region.wanted o (yielded ops a.tmps) then o.wpIn F n P a w K Q
      else (∀ f, o.about P w a.eval = some f → F.fn f) ∧ K (a.put o.dst undef) w
theorem wpOpsIn_cons {F : Fence} {n : Nat} {P : Program} {ops : Array Oper} {Q : Exit → Act → World → Prop} (i : Nat) (rest : List Nat) (a : Act) (w : World) :
    wpOpsIn F n P ops Q (i :: rest) a w = wpOpI F n P ops Q i (wpOpsIn F n P ops Q rest) a w := by
  cases h : ops[i]? <;> simp [wpOpsIn, wpOpI, h]

theorem step_sound {F : Fence} (hF : WideF F) {nn : Nat} {call : CallF} (hcall : CallSound C call) {ops : Array Oper} {base i : Nat} {s s' : St} {a : Act} {done : Nat → Prop} {ρ0 : Ren}
    (hR : Rel C nt lo ρ I s a w) (hF1 : Frame1 base ops.size done ρ0 ρ s.mem) (hnext : base + ops.size ≤ s.mem.next) (hi : ¬ done i) (hok : opsOk nt ops = true)
    (h : aStep C call ops base i s = some s') {Q : Exit → Act → World → Prop} {K : Act → World → Prop}
    (hK : ∀ (ρ' : Ren) (I' : Nat → Prop) (v : Value) (w' : World), Rel C nt lo ρ' I' s' (a.put ((ops[i]?).bind (·.dst)) v) w' → Fr ρ I s.mem w ρ' I' s'.mem w' →
      Frame1 base ops.size (fun j => done j ∨ j = i) ρ0 ρ' s'.mem → base + ops.size ≤ s'.mem.next → K (a.put ((ops[i]?).bind (·.dst)) v) w') : wpOpI F nn C.P ops Q i K a w := by
  unfold aStep at h
  split at h
  · cases h
  · rename_i o ho
    have hil : i < ops.size := (Array.getElem?_eq_some_iff.1 ho).1
    have hd : ∀ d, o.dst = some d → d < a.tmps.size := by
      intro d hd
      have := List.all_eq_true.1 hok o (List.mem_of_getElem? (by simpa using ho))
      rw [hd] at this
      rw [hR.size]
      simpa using this
    rw [ho] at hK
    simp only [Option.bind_some] at hK
    unfold wpOpI
    simp only [ho]
    split at h
    · cases h
    · rename_i hw
      cases h
      rw [wantedA_sound hR hw]
      simp only [Bool.false_eq_true, if_false]
      refine ⟨fun f _ => hF.fn f, hK ρ I _ w ⟨hR.mem, env_put hR.env hd (VR.tup_mk (VRs.nil _ _ _)), by rw [put_size]; exact hR.size, by rw [put_defers]; exact hR.defers, hR.globals, hR.glob, hR.fresh⟩ (Fr.refl _ _ _ _) ⟨hF1.low, fun j hj hn => hF1.undone j hj (fun e => hn (.inl e))⟩ hnext⟩
    · rename_i hw
      rw [wantedA_sound hR hw]
      simp only [if_true]
      refine ⟨fun f _ => hF.fn f, ?_⟩
      split at h
      · rename_i f args hc
        obtain ⟨c, hop, hcal, hargs⟩ := callOf_spec hc
        split at h
        · rename_i g first captured hf
          split at h
          · rename_i v m' hcl
            cases h
            have hfv := hR.opd f
            rw [hf] at hfv
            obtain ⟨vs, us, hv, g1, g2⟩ := hfv.fn_inv
            obtain ⟨hbody, hnum, hsound⟩ := hcall g _ _ v m' hcl
            cases hfn : C.P.funcs[g]? with
            | none => simp [hfn] at hbody
            | some fn =>
              have hb : fn.body ≠ none := by simpa [hfn] using hbody
              have hnm := hnum fn hfn
              rw [Oper.semAt_eq _ _ _ (fun c' hc' => by rw [hop] at hc'; cases hc')]
              have hrun : (execOp a.eval o).run C.P w = .ok (.enter g (vs ++ c.args.map a.eval ++ us)) w := by
                have hnm' : ¬ fn.name = "runtime.NumGoroutine" := by simpa using hnm
                simp [execOp, hop, resolve, hcal, hv, Deferred.ofValue, invoke, callFunc, hfn, hnm', hb]
              rw [hrun]
              rw [Oper.uponIn_enter]
              refine ⟨fun hs => hF.depth hs, ?_⟩
              have hargs' : VRs ρ I w (first ++ args.map (Go.Ab.opd C s.env) ++ captured) (vs ++ c.args.map a.eval ++ us).toList := by
                have := map_opd (C := C) (ev := a.eval) (fun x => hR.opd x) c.args
                rw [hargs] at this
                simpa using (g1.append this).append g2
              refine (hF.calls (hsound ρ I w _ hR.mem hR.globals hR.glob hR.fresh hargs')).mono fun e w' hp => ?_
              obtain ⟨u, ρ', I', rfl, k1, k2, k3, k4, k5, k6⟩ := hp
              simp only []
              refine hK ρ' I' _ w' ⟨k1, env_put (fun t => (hR.env t).ext k3.ext) hd k2, by rw [put_size]; exact hR.size, by rw [put_defers]; exact hR.defers.fr hR.mem k3,
                fun g hg => k3.ext.rho _ _ (hR.globals g hg), hR.glob.ext k3.ext.sub k3.ext.keep, k4⟩ k3 ⟨fun id hid => ?_, fun j hj hn => ?_⟩ (Nat.le_trans hnext k6)
              · exact (k5 id (by omega)).trans (hF1.low id hid)
              · exact (k5 _ (by omega)).trans (hF1.undone j hj (fun e => hn (.inl e)))
          · cases h
        · cases h
      · rename_i hc
        split at h
        · rename_i v m' hop
          cases h
          obtain ⟨u, ρ', w', r1, r2, r3, r4, r5⟩ := aOp_sound hR.mem (hF1.undone i hil hi) (fun x => hR.opd x) hop
          have hnx := aOp_next hop
          have hrel : ∀ u', VR ρ' I w' v u' → Rel C nt lo ρ' I ⟨setOpt s.env o.dst v, m'⟩ (a.put o.dst u') w' := fun u' hu' =>
            ⟨r2, env_put (fun t => (hR.env t).ext r4.ext) hd hu', by rw [put_size]; exact hR.size, by rw [put_defers]; exact hR.defers.fr hR.mem r4,
              fun g hg => r4.ext.rho _ _ (hR.globals g hg), hR.glob.ext r4.ext.sub r4.ext.keep, fun id hid => by
                have hid' : s.mem.next ≤ id := by simpa [hnx] using hid
                rw [r5 id (by omega)]
                exact hR.fresh id hid'⟩
          have hfr : Frame1 base ops.size (fun j => done j ∨ j = i) ρ0 ρ' m' := ⟨fun id hid => (r5 id (by omega)).trans (hF1.low id hid), fun j hj hn => by
            have hji : j ≠ i := fun e => hn (.inr e)
            rw [r5 _ (by omega)]
            exact hF1.undone j hj (fun e => hn (.inl e))⟩
          have hnx' : base + ops.size ≤ m'.next := by rw [hnx]; exact hnext
          rw [Oper.semAt_eq _ _ _ (aOp_defer hop)]
          rcases r1 with r1 | ⟨r1, rfl⟩
          · rw [r1]
            exact hK ρ' I _ w' (hrel u r3) r4 hfr hnx'
          · rw [r1]
            exact hK ρ' I _ w' (hrel undef r3) r4 hfr hnx'
        · cases h

theorem ops_sound {F : Fence} (hF : WideF F) {nn : Nat} {call : CallF} (hcall : CallSound C call) {ops : Array Oper} {base : Nat} (hok : opsOk nt ops = true) {ρ0 : Ren} {Q : Exit → Act → World → Prop} :
    ∀ (is : List Nat) (s s' : St) (a : Act) (w : World) (ρ : Ren) (I : Nat → Prop) (done : Nat → Prop), is.Nodup → (∀ i ∈ is, ¬ done i) →
      Rel C nt lo ρ I s a w → Frame1 base ops.size done ρ0 ρ s.mem → base + ops.size ≤ s.mem.next → aOps C call ops base is s = some s' →
      (∀ (ρ' : Ren) (I' : Nat → Prop) (a' : Act) (w' : World), Rel C nt lo ρ' I' s' a' w' → Fr ρ I s.mem w ρ' I' s'.mem w' → (∀ id, id < base → ρ' id = ρ0 id) → base + ops.size ≤ s'.mem.next → a'.defers = a.defers → Q .normal a' w') →
      wpOpsIn F nn C.P ops Q is a w := by
  intro is
  induction is with
  | nil =>
    intro s s' a w ρ I done _ _ hR hF1 hn h hQ
    simp only [aOps, Option.some.injEq] at h
    subst h
    exact hQ ρ I a w hR (Fr.refl _ _ _ _) hF1.low hn rfl
  | cons i is ih =>
    intro s s' a w ρ I done hnd hdone hR hF1 hn h hQ
    simp only [aOps] at h
    cases hs : aStep C call ops base i s with
    | none => simp [hs] at h
    | some s1 =>
      simp only [hs, Option.bind_some] at h
      rw [wpOpsIn_cons]
      have hnd' := List.nodup_cons.1 hnd
      refine step_sound hF hcall hR hF1 hn (hdone i (by simp)) hok hs fun ρ1 I1 v1 w1 hR1 hF1' hFr1 hn1 => ?_
      refine ih s1 s' _ w1 ρ1 I1 (fun j => done j ∨ j = i) hnd'.2 (fun j hj hd => ?_) hR1 hFr1 hn1 h fun ρ' I' a' w' g1 g2 g3 g4 g5 => hQ ρ' I' a' w' g1 (hF1'.trans g2) g3 g4 (g5.trans (put_defers _ _ _))
      rcases hd with hd | rfl
      · exact hdone j (by simp [hj]) hd
      · exact hnd'.1 hj
end
end Go.Ab
end

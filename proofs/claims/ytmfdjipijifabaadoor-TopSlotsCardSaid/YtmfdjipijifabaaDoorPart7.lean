/- Part 7 of a proof in many texts, put together: definitions and lemmas. The theorem stands in the last text; no conditions. -/
import Derived.Test.YtmfdjipijifabaaDoorPart6
section
/- The contest as a law of its own: the invariant holds after each slot. -/
set_option linter.unusedVariables false
set_option linter.unusedSimpArgs false
namespace Go.Proofs.YtmfdjipijifabaaDoor
open Go.Ab

section
variable {h : List (List Bool)} {ask : Bool} {n : Nat} {tos : Nat → Nat} {t : Int} {l : List Sta} {out : List Bur}

theorem begL_get (i : Nat) : (begL h ask t l)[i]? = l[i]?.map (begF h ask l t i) := by simp [begL, List.getElem?_mapIdx]
@[simp] theorem begL_len : (begL h ask t l).length = l.length := by simp [begL]

/-- A station but for its reservation. -/
def Sta.core (s : Sta) : Sta := { s with reserved := 0 }

theorem set_same {α : Type} {l : List α} {c : Nat} {x : α} (h : l[c]? = some x) : l.set c x = l := by
  apply List.ext_getElem?
  intro j
  by_cases hj : j = c
  · subst hj
    rw [List.getElem?_set_self (List.getElem?_eq_some_iff.1 h).1, h]
  · rw [List.getElem?_set_ne (fun e => hj e.symm)]

theorem ansL_core (i c : Nat) : (ansL h l i c).map Sta.core = l.map Sta.core := by
  induction c with
  | zero => rfl
  | succ c ih =>
    simp only [ansL]
    split
    · rename_i s x hs hx
      split
      · rw [List.map_set, ih]
        refine set_same ?_
        rw [← ih]
        simp [hx, Sta.core]
      · exact ih
    · exact ih

theorem answers_core (is : List Nat) : ∀ l : List Sta, (answers h is l).map Sta.core = l.map Sta.core := by
  induction is with
  | nil => intro l; rfl
  | cons i is ih =>
    intro l
    simp only [answers, List.foldl_cons]
    exact (ih _).trans (ansL_core i _)

theorem airL_len : (airL h ask t l).length = l.length := by
  have := congrArg List.length (answers_core (h := h) (ansI h ask t l) (touch (grant t) (ansI h ask t l) (touch spoil (badL h ask t l) l)))
  simpa [airL] using this

theorem airL_get {i : Nat} {s : Sta} (hi : l[i]? = some s) : ∃ s2, (airL h ask t l)[i]? = some s2 ∧
    s2.c = s.c ∧ s2.start = s.start ∧ s2.fin = (if ansAt h ask l t i = true then t + 1 + s.c.air else s.fin) ∧ s2.asked = (ansAt h ask l t i || s.asked) ∧ s2.spoiled = (badAt h ask l t i || s.spoiled) := by
  have hil : i < l.length := (List.getElem?_eq_some_iff.1 hi).1
  have e := answers_core (h := h) (ansI h ask t l) (touch (grant t) (ansI h ask t l) (touch spoil (badL h ask t l) l))
  have e2 := congrArg (·[i]?) e
  simp only [List.getElem?_map, touch_get, hi, Option.map_some] at e2
  have ha : i ∈ ansI h ask t l ↔ ansAt h ask l t i = true := by simp [ansI, hil]
  have hb : i ∈ badL h ask t l ↔ badAt h ask l t i = true := by simp [badL, hil]
  simp only [ha, hb] at e2
  cases hx : (answers h (ansI h ask t l) (touch (grant t) (ansI h ask t l) (touch spoil (badL h ask t l) l)))[i]? with
  | none => rw [hx] at e2; simp at e2
  | some s2 =>
    rw [hx] at e2
    simp only [Option.map_some, Option.some.injEq] at e2
    refine ⟨s2, hx, ?_⟩
    have f1 := congrArg Sta.c e2
    have f2 := congrArg Sta.start e2
    have f3 := congrArg Sta.fin e2
    have f4 := congrArg Sta.asked e2
    have f5 := congrArg Sta.spoiled e2
    simp only [Sta.core] at f1 f2 f3 f4 f5
    cases h1 : ansAt h ask l t i <;> cases h2 : badAt h ask l t i <;> simp [h1, h2, grant, spoil] at f1 f2 f3 f4 f5 ⊢ <;> exact ⟨f1, f2, f3, f4, f5⟩

theorem freeAt_true {i : Nat} (hf : freeAt h l (l.map (·.sends t)) i t = true) : ∃ s, l[i]? = some s ∧ s.sends t = false ∧ ∀ (k : Nat) (x : Sta), l[k]? = some x → x.sends t = true → hr h i k = false := by
  unfold freeAt at hf
  split at hf
  · rename_i s row hs hrow
    simp only [Bool.and_eq_true, Bool.not_eq_true', List.all_eq_true, List.mem_range, List.length_map] at hf
    refine ⟨s, hs, ?_, fun k x hx hxs => ?_⟩
    · have := hf.1
      rw [List.getElem?_map, hs] at this
      simpa using this
    · have hk : k < l.length := (List.getElem?_eq_some_iff.1 hx).1
      have := hf.2.2.2 k hk
      rw [List.getElem?_map, hx] at this
      simp only [Option.map_some, Option.getD_some, hxs, Bool.true_and] at this
      simp [hr, hrow, this]
  · cases hf

theorem distAt_iff {i : Nat} {s : Sta} (hi : l[i]? = some s) (hto : s.c.to = tos i) (hh : h.length = l.length) (hlt : tos i < l.length) :
    distAt h l i t = true ↔ Dst h tos (fun k _ => onAt l k t = true) i t := by
  unfold distAt
  rw [hi]
  simp only [hto]
  have e1 : h[tos i]? = some (h[tos i]'(by omega)) := List.getElem?_eq_getElem _
  have e2 : l[tos i]? = some l[tos i] := List.getElem?_eq_getElem _
  rw [e1, e2]
  simp only [Bool.or_eq_true, Bool.not_eq_true', List.any_eq_true, List.mem_range]
  unfold Dst
  refine or_congr ?_ (or_congr ?_ ?_)
  · simp [hr, e1]
  · simp [onAt, e2]
  · constructor
    · rintro ⟨k, hk, q⟩
      simp only [distK, e1, List.getElem?_eq_getElem hk, Bool.and_eq_true, decide_eq_true_eq] at q
      refine ⟨k, q.1, ?_, ?_⟩
      · simpa [hr, e1] using q.2.1
      · simpa [onAt, List.getElem?_eq_getElem hk] using q.2.2
    · rintro ⟨k, q1, q2, q3⟩
      have hk : k < l.length := by
        rcases Nat.lt_or_ge k l.length with hk | hk
        · exact hk
        · simp [onAt, List.getElem?_eq_none hk] at q3
      refine ⟨k, hk, ?_⟩
      simp only [distK, e1, List.getElem?_eq_getElem hk, Bool.and_eq_true, decide_eq_true_eq]
      refine ⟨q1, ?_, ?_⟩
      · simpa [hr, e1] using q2
      · simpa [onAt, List.getElem?_eq_getElem hk] using q3

theorem slot_is (H : MInv h ask n tos (t - 1) l out) (ht : 0 ≤ t) (hno : ∀ (i : Nat) (s : Sta), l[i]? = some s → s.fin ≠ t ∨ s.fin = 0) (hh : h.length = n) (hlt : ∀ i, i < n → tos i < n) :
    Slot h ask tos t l (airL h ask t (begL h ask t l)) := by
  have hlen := H.len
  refine ⟨by rw [airL_len]; simp, ?_⟩
  have wf : ∀ (i : Nat) (s : Sta), l[i]? = some s → (s.fin = 0 ∧ s.sends t = false) ∨ (s.fin ≠ 0 ∧ s.sends t = true ∧ s.start < t ∧ t < s.fin ∧ s.fin ≤ s.start + 7) := by
    intro i s hi
    have h1 := H.wf i s hi
    have h2 := hno i s hi
    rcases h1 with h1 | h1
    · refine .inl ⟨h1, ?_⟩
      unfold Sta.sends
      simp only [Bool.and_eq_false_iff, decide_eq_false_iff_not]
      omega
    · refine .inr ⟨by omega, ?_, by omega, by omega, by omega⟩
      unfold Sta.sends
      simp only [Bool.and_eq_true, decide_eq_true_eq]
      omega
  -- what begins
  have beg : ∀ (i : Nat) (s : Sta), l[i]? = some s → ∃ s1, (begL h ask t l)[i]? = some s1 ∧ s1.c.to = s.c.to ∧ s1.c.air = s.c.air ∧
      ((s1.start = s.start ∧ s1.fin = s.fin ∧ s1.asked = s.asked ∧ s1.spoiled = s.spoiled) ∨
       (s.fin = 0 ∧ (∀ (k : Nat) (x : Sta), l[k]? = some x → x.fin ≠ 0 → hr h i k = false) ∧ s1.start = t ∧ s1.fin = (if ask then t + 1 else t + s.c.air) ∧ s1.asked = false ∧ s1.spoiled = false)) := by
    intro i s hi
    refine ⟨begF h ask l t i s, by rw [begL_get, hi]; rfl, ?_⟩
    unfold begF
    split
    · rename_i hf
      obtain ⟨s', h1, h2, h3⟩ := freeAt_true hf
      rw [hi] at h1
      cases h1
      unfold begS
      split
      · exact ⟨rfl, rfl, .inl ⟨rfl, rfl, rfl, rfl⟩⟩
      · refine ⟨rfl, rfl, .inr ⟨?_, fun k x hx hx0 => ?_, rfl, rfl, rfl, rfl⟩⟩
        · rcases wf i s hi with q | q
          · exact q.1
          · rw [h2] at q; simp at q
        · rcases wf k x hx with q | q
          · exact absurd q.1 hx0
          · exact h3 k x hx q.2.1
    · exact ⟨rfl, rfl, .inl ⟨rfl, rfl, rfl, rfl⟩⟩
  have on1 : ∀ (i : Nat) (s : Sta), l[i]? = some s → ∀ s1, (begL h ask t l)[i]? = some s1 → s1.c.air = s.c.air → ((s1.start = s.start ∧ s1.fin = s.fin ∧ s1.asked = s.asked ∧ s1.spoiled = s.spoiled) ∨
       (s.fin = 0 ∧ (∀ (k : Nat) (x : Sta), l[k]? = some x → x.fin ≠ 0 → hr h i k = false) ∧ s1.start = t ∧ s1.fin = (if ask then t + 1 else t + s.c.air) ∧ s1.asked = false ∧ s1.spoiled = false)) →
       (s1.fin = 0 ∧ onAt (begL h ask t l) i t = false) ∨ (t < s1.fin ∧ s1.fin ≤ s1.start + 7 ∧ s1.start ≤ t ∧ onAt (begL h ask t l) i t = true) := by
    intro i s hi s1 hi1 hair hc
    have ha := H.air i s hi
    unfold onAt
    rw [hi1]
    simp only [Sta.sends]
    rcases hc with ⟨c1, c2, _⟩ | ⟨_, _, c1, c2, _⟩
    · rcases wf i s hi with q | q
      · refine .inl ⟨by omega, ?_⟩
        rw [c1, c2]; exact q.2
      · refine .inr ⟨by omega, by omega, by omega, ?_⟩
        rw [c1, c2]; exact q.2.1
    · refine .inr ⟨?_, ?_, by omega, ?_⟩
      · rw [c2]; split <;> omega
      · rw [c1, c2]; split <;> omega
      · simp only [Bool.and_eq_true, decide_eq_true_eq]
        rw [c1, c2]
        split <;> omega
  -- who sends now
  have E : ∀ k, onAt (begL h ask t l) k t = true ↔ ∃ x, (airL h ask t (begL h ask t l))[k]? = some x ∧ x.fin ≠ 0 := by
    intro k
    rcases Nat.lt_or_ge k l.length with hk | hk
    · have hk' : l[k]? = some l[k] := List.getElem?_eq_getElem hk
      obtain ⟨s1, b1, b2, b3, b4⟩ := beg k _ hk'
      obtain ⟨s2, a1, a2, a3, a4, a5, a6⟩ := airL_get (h := h) (ask := ask) (t := t) b1
      have ha := H.air k _ hk'
      rcases on1 k _ hk' s1 b1 b3 b4 with ⟨q1, q2⟩ | ⟨q1, q2, q3, q4⟩
      · rw [q2]
        simp only [Bool.false_eq_true, false_iff]
        rintro ⟨x, hx, hx0⟩
        rw [a1] at hx
        cases hx
        apply hx0
        rw [a4, if_neg, q1]
        unfold ansAt
        rw [q2]
        simp
      · rw [q4]
        simp only [true_iff]
        refine ⟨s2, a1, ?_⟩
        rw [a4]
        split <;> omega
    · have e1 : (begL h ask t l)[k]? = none := List.getElem?_eq_none (by simpa using hk)
      have e2 : (airL h ask t (begL h ask t l))[k]? = none := List.getElem?_eq_none (by rw [airL_len]; simpa using hk)
      simp [onAt, e1, e2]
  intro i s hi
  obtain ⟨s1, b1, b2, b3, b4⟩ := beg i s hi
  obtain ⟨s2, a1, a2, a3, a4, a5, a6⟩ := airL_get (h := h) (ask := ask) (t := t) b1
  have hil : i < n := by rw [← hlen]; exact (List.getElem?_eq_some_iff.1 hi).1
  have hair := H.air i s hi
  have hd : distAt h (begL h ask t l) i t = true ↔ Dst h tos (fun k _ => ∃ x, (airL h ask t (begL h ask t l))[k]? = some x ∧ x.fin ≠ 0) i t :=
    (distAt_iff b1 (by rw [b2]; exact H.to i s hi) (by simp; omega) (by simp [hlen]; exact hlt i hil)).trans (Dst.congr E)
  refine ⟨s2, a1, by rw [a2, b2], by rw [a2, b3], ?_⟩
  have ho := on1 i s hi s1 b1 b3 b4
  rcases b4 with ⟨c1, c2, c3, c4⟩ | ⟨c0, c1, c2, c3, c4, c5⟩
  · left
    rcases wf i s hi with q | q
    · have hoff : onAt (begL h ask t l) i t = false := by
        rcases ho with ho | ho
        · exact ho.2
        · omega
      have hb : badAt h ask (begL h ask t l) t i = false := by unfold badAt; rw [hoff]; rfl
      have hn : ansAt h ask (begL h ask t l) t i = false := by unfold ansAt; rw [hoff]; rfl
      rw [hn] at a4 a5
      rw [hb] at a6
      refine ⟨by omega, by simpa [c2] using a4, by simpa [c3] using a5, ?_⟩
      rw [a6, c4]
      simp [q.1]
    · have hon : onAt (begL h ask t l) i t = true := by
        rcases ho with ho | ho
        · omega
        · exact ho.2.2.2
      have hrq : reqAt ask (begL h ask t l) i t = false := by
        unfold reqAt
        rw [b1]
        have : ¬ s1.start = t := by omega
        simp [this]
      have hb : badAt h ask (begL h ask t l) t i = distAt h (begL h ask t l) i t := by unfold badAt; rw [hon, hrq]; simp
      have hn : ansAt h ask (begL h ask t l) t i = false := by unfold ansAt; rw [hon, hrq]; simp
      rw [hn] at a4 a5
      rw [hb] at a6
      refine ⟨by omega, by simpa [c2] using a4, by simpa [c3] using a5, ?_⟩
      rw [a6, c4, Bool.or_eq_true, hd]
      constructor
      · rintro (e | e)
        · exact .inr ⟨q.1, e⟩
        · exact .inl e
      · rintro (e | e)
        · exact .inr e
        · exact .inl e.2
  · right
    have hon : onAt (begL h ask t l) i t = true := by
      rcases ho with ho | ho
      · have : t < s1.fin := by rw [c3]; split <;> omega
        omega
      · exact ho.2.2.2
    have hrq : reqAt ask (begL h ask t l) i t = ask := by
      unfold reqAt
      rw [b1]
      simp [c2]
    have hbad : badAt h ask (begL h ask t l) t i = (distAt h (begL h ask t l) i t || (ask && heldAt (begL h ask t l) i t)) := by unfold badAt; rw [hon, hrq]; simp
    have hans : ansAt h ask (begL h ask t l) t i = (!(distAt h (begL h ask t l) i t || (ask && heldAt (begL h ask t l) i t)) && ask) := by unfold ansAt; rw [hon, hrq]; simp
    rw [c4, Bool.or_false] at a5
    rw [c5, Bool.or_false] at a6
    refine ⟨c0, c1, by omega, ?_, ?_, ?_, ?_, ?_⟩
    · rw [a4]; split
      · omega
      · rw [c3]; split <;> omega
    · rw [a4, b3]; split
      · omega
      · rw [c3]; split <;> omega
    · rw [a5, hans]
      intro e
      simp only [Bool.and_eq_true] at e
      exact e.2
    · intro e1 e2
      rw [a5]
      cases hx : ansAt h ask (begL h ask t l) t i with
      | true => rfl
      | false =>
        rw [a4, hx, if_neg (by simp), c3, e2] at e1
        simp at e1
    · rw [a6, a5, hbad, hans, ← hd]
      generalize distAt h (begL h ask t l) i t = x
      generalize heldAt (begL h ask t l) i t = y
      cases x <;> cases y <;> cases ask <;> simp

theorem finC_inv {x : Con3} (H : MInv h ask n tos t x.l x.out) (ht : 0 ≤ t) : ∀ c, c ≤ n → MInv h ask n tos t (finC t x c).l (finC t x c).out ∧
    (∀ (i : Nat) (s : Sta), (finC t x c).l[i]? = some s → i < c → s.fin ≠ t + 1) ∧ ∃ r, (finC t x c).out = x.out ++ r ∧ ∀ b ∈ r, b.fin = t + 1 := by
  intro c
  induction c with
  | zero => intro _; exact ⟨H, fun i s _ hi => absurd hi (by omega), [], by simp [finC], by simp⟩
  | succ c ih =>
    intro hc
    obtain ⟨q1, q2, r, q3, q4⟩ := ih (by omega)
    simp only [finC]
    generalize finC t x c = y at q1 q2 q3
    unfold finOne
    have hcl : c < y.l.length := by rw [q1.len]; omega
    rw [List.getElem?_eq_getElem hcl]
    simp only []
    split
    · rename_i hf
      refine ⟨q1.fin (List.getElem?_eq_getElem hcl) hf ht rfl rfl rfl, fun i s hi hic => ?_, r ++ [burOf c y.l[c]], by rw [q3, List.append_assoc], fun b hb => ?_⟩
      · by_cases hi' : i = c
        · subst hi'
          simp only [List.getElem?_set_self hcl, Option.some.injEq] at hi
          subst hi
          simp only [finS]
          omega
        · rw [List.getElem?_set_ne (fun e => hi' e.symm)] at hi
          exact q2 i s hi (by omega)
      · rcases List.mem_append.1 hb with hb | hb
        · exact q4 b hb
        · rw [List.mem_singleton] at hb
          subst hb
          exact hf
    · rename_i hf
      refine ⟨q1, fun i s hi hic => ?_, r, q3, q4⟩
      by_cases hi' : i = c
      · subst hi'
        rw [List.getElem?_eq_getElem hcl] at hi
        cases hi
        exact hf
      · exact q2 i s hi (by omega)

/-- What holds before each slot. -/
theorem run_inv {l0 : List Sta} {d : List Int} (hlen : l0.length = n) (hh : h.length = n) (hlt : ∀ i, i < n → tos i < n) (h0 : ∀ (i : Nat) (s : Sta), l0[i]? = some s → s.fin = 0 ∧ s.c.to = tos i ∧ 1 ≤ s.c.air ∧ s.c.air ≤ 6) :
    ∀ k : Nat, MInv h ask n tos ((k : Int) - 1) (runR h ask l0 d k).l (runR h ask l0 d k).out ∧ ∀ (i : Nat) (s : Sta), (runR h ask l0 d k).l[i]? = some s → s.fin ≠ k ∨ s.fin = 0 := by
  intro k
  induction k with
  | zero =>
    refine ⟨⟨hlen, fun i s hi => (h0 i s hi).2.1, fun i s hi => (h0 i s hi).2.2, fun i s hi => .inl (h0 i s hi).1, ?_, ?_, ?_, ?_, ?_, fun i s hi hi0 => absurd (h0 i s hi).1 hi0⟩, fun i s hi => .inr (h0 i s hi).1⟩
    · intro x hx; simp [runR] at hx
    · simp [runR]
    · intro x hx; simp [runR] at hx
    · rintro w a b w' a' b' (⟨x, hx, _⟩ | ⟨s, hx, hx0, _⟩)
      · simp [runR] at hx
      · exact absurd (h0 w s hx).1 hx0
    · intro x hx; simp [runR] at hx
  | succ k ih =>
    obtain ⟨H, hno⟩ := ih
    simp only [runR]
    generalize runR h ask l0 d k = x at H hno
    unfold slotR
    have hS := slot_is H (by omega) hno hh hlt
    have H2 := H.slot (by omega) hno hS
    have H3 := finC_inv (x := ⟨airL h ask k (begL h ask k x.l), x.d, x.out⟩) H2 (by omega) n (Nat.le_refl _)
    have hxl : x.l.length = n := H.len
    rw [hxl, show ((k + 1 : Nat) : Int) - 1 = k by omega]
    refine ⟨H3.1, fun i s hi => ?_⟩
    have hil : i < n := by rw [← H3.1.len]; exact (List.getElem?_eq_some_iff.1 hi).1
    have := H3.2.1 i s hi hil
    omega
end
end Go.Proofs.YtmfdjipijifabaaDoor
end
section
/- The contest: who begins to send. -/
set_option linter.unusedVariables false
set_option linter.unusedSimpArgs false
set_option maxRecDepth 100000
set_option linter.unnecessarySimpa false
namespace Go.Proofs.YtmfdjipijifabaaDoor
open Go.Ab

theorem CM.grow {cid aid : Nat} {h : List (List Bool)} {ask : Bool} {l : List Sta} {d out : AVal} {m m' : Mem} (hc : CM cid aid h ask l d out m) (g : Grow m m') : CM cid aid h ask l d out m' := by
  have h1 := hc.lt
  have h2 := hc.st.lt
  refine ⟨Nat.lt_of_lt_of_le h1 g.next, by rw [g.mode _ h1]; exact hc.rw, by rw [g.cell _ h1]; exact hc.c1, by rw [g.cell _ h1]; exact hc.c2, by rw [g.cell _ h1]; exact hc.c4, by rw [g.cell _ h1]; exact hc.c5, by rw [g.cell _ h1]; exact hc.c6,
    ⟨Nat.lt_of_lt_of_le h2 g.next, by rw [g.mode _ h2]; exact hc.st.rw, by rw [g.siz _ h2]; exact hc.st.siz, fun i hi o ho => by rw [g.cell _ h2]; exact hc.st.cell i hi o ho⟩, hc.ne, g.dead hc.fresh⟩
theorem Keep.of_grow {aid : Nat} {m m' : Mem} (g : Grow m m') : Keep aid m m' := ⟨g.next, fun id hi _ => g.cell id hi, g.mode, g.siz⟩

theorem inf4 : ∃ i, Tryd.prog.info? 4 = some i ∧ i.size = 1 ∧ i.bytes = 1 := inf_of (by kernel_rfl)
theorem inf3 : ∃ i, Tryd.prog.info? 3 = some i ∧ i.size = 1 ∧ i.bytes = 8 := inf_of (by kernel_rfl)

theorem flat_bool (l : List Bool) : l.flatMap eBool = l.map AVal.bool := by
  induction l with
  | nil => rfl
  | cons x l ih => rw [List.flatMap_cons, ih]; rfl

theorem bools_of {s : AVal} {l : List Bool} {lo : Nat} {m : Mem} (h : App eBool 1 s l lo m) (hne : 0 < l.length) : ∃ id, s = .own id 0 l.length 1 ∧ lo ≤ id ∧ id < m.next ∧ Bools id l m := by
  rcases h with ⟨rfl, _⟩ | ⟨id, h1, h2, h3, h4, h5, h6⟩
  · simp at hne
  · refine ⟨id, h1, h2, h3, by rw [h4]; simp, fun i hi => ?_⟩
    rw [h6 i (by omega)]
    rw [flat_bool]
    simp [hi]

theorem begL_freeAt {h : List (List Bool)} {l : List Sta} {snd : List Bool} {t : Int} {f : Nat → Sta → Sta} {c : Nat} (hc : c < l.length) : freeAt h (upto f c l) snd c t = freeAt h l snd c t := by
  unfold freeAt
  rw [upto_get, List.getElem?_eq_getElem hc]
  simp

theorem upto_at {α : Type} {f : Nat → α → α} {c : Nat} {l : List α} (hc : c < l.length) : (upto f c l)[c]'(by simpa using hc) = l[c] := by
  have := upto_get (f := f) (c := c) (l := l) c
  rw [List.getElem?_eq_getElem (by simpa using hc), List.getElem?_eq_getElem hc] at this
  simpa using this

/-- One station was changed, and nothing else. -/
structure At (aid i : Nat) (m m' : Mem) : Prop where
  next : m.next ≤ m'.next
  mode : m'.mode = m.mode
  siz : m'.siz = m.siz
  cell : ∀ id o, ¬ (id = aid ∧ i * 12 ≤ o ∧ o < i * 12 + 12) → m'.cell id o = m.cell id o
theorem At.keep {aid i : Nat} {m m' : Mem} (h : At aid i m m') : Keep aid m m' :=
  ⟨h.next, fun id _ hne => by funext o; exact h.cell id o (fun e => hne e.1), fun id _ => by rw [h.mode], fun id _ => by rw [h.siz]⟩
theorem At.bools {aid i sid : Nat} {m m' : Mem} {bs : List Bool} (h : At aid i m m') (hne : sid ≠ aid) (hb : Bools sid bs m) : Bools sid bs m' :=
  ⟨by rw [h.mode]; exact hb.live, fun j hj => by rw [h.cell sid j (fun e => hne e.1)]; exact hb.cell j hj⟩
theorem CM.at {cid aid : Nat} {h : List (List Bool)} {ask : Bool} {l : List Sta} {d out : AVal} {m m' : Mem} (hc : CM cid aid h ask l d out m) {i : Nat} (hi : i < l.length) (s' : Sta) (hA : At aid i m m')
    (hnew : ∀ o, o < 12 → m'.cell aid (i * 12 + o) = (eSta s')[o]?) : CM cid aid h ask (l.set i s') d out m' :=
  hc.set hi s' hA.next hA.mode hA.siz hA.cell hnew
theorem lt12 {o : Nat} (h : o < 12) : o = 0 ∨ o = 1 ∨ o = 2 ∨ o = 3 ∨ o = 4 ∨ o = 5 ∨ o = 6 ∨ o = 7 ∨ o = 8 ∨ o = 9 ∨ o = 10 ∨ o = 11 := by omega

theorem c21 (cid aid : Nat) (h : List (List Bool)) (ask : Bool) (l : List Sta) (d out : AVal) (t : Int) (hh : h.length = l.length) (hr : ∀ i (hi : i < h.length), h[i].length = l.length) (hl : l.length < 2 ^ 20) (h0 : 0 < l.length)
    (ht : 0 ≤ t ∧ t ≤ 10000) (hok : ∀ s ∈ l, s.c.b.ok ∧ 0 ≤ s.c.air ∧ s.c.air ≤ 200)
    (k : Nat) (hk : l.length + 8 ≤ k) (m : Mem) (hc : CM cid aid h ask l d out m) :
    ∃ m', cCall C T k 21 [.ptr cid 0, .int .i64 t] m = some (.tup [], m') ∧ CM cid aid h ask (begL h ask t l) d out m' ∧ Keep aid m m' := by
  obtain ⟨k, rfl⟩ : ∃ j, k = j + 1 := ⟨k - 1, by omega⟩
  simp only [cCall, kd21]
  rw [body21]
  have hm := hc.rw
  have c4 := hc.c4
  have own70 : ∀ q : Nat, q < l.length → indexAddrA Tryd.prog 70 (.own aid 0 l.length 12) (.int .i64 q) = some (.ptr aid (q * 12)) := fun q hq => by simp [indexAddrA, hq]
  have hww : ∀ c : Nat, c < l.length → IntKind.i64.wrap ((c : Int) + 1) = ((c + 1 : Nat) : Int) := fun c hc => IntWalk.i64_in _ (by omega)
  simp [codeOf, Tryd.f21, hm, c4, lenA]
  generalize hl' : cCode C _ _ _ (.loop _) _ = r
  obtain ⟨e, s', rfl, he, hp⟩ := loop_rule hl' (fun q s => s.env 0 = .ptr cid 0 ∧ s.env 1 = .int .i64 t ∧ s.env 12 = .int .i64 l.length ∧ Grow m s.mem ∧
      ∃ c, c + q = l.length ∧ s.env 13 = .int .i64 (c : Nat) ∧ App eBool 1 (s.env 4) ((l.take c).map (·.sends t)) m.next s.mem)
    (fun e s => e = .exit 0 ∧ s.env 0 = .ptr cid 0 ∧ s.env 1 = .int .i64 t ∧ Grow m s.mem ∧ App eBool 1 (s.env 4) (l.map (·.sends t)) m.next s.mem) l.length (by omega) (by
      refine ⟨by simp, by simp, by simp, Grow.bump _ _, 0, by simp, by simp, by simpa using App.nil⟩) (by
      rintro q s ⟨e0, e1, e12, hg, c, hcq, e13, happ⟩
      have hcs := hc.grow hg
      have hm2 := hcs.rw
      have d4 := hcs.c4
      by_cases hcl : c < l.length
      · have s39 : ∀ n, cCall C T k 39 [.ptr aid (c * 12), .int .i64 t] { cell := s.mem.cell, mode := s.mem.mode, siz := s.mem.siz, next := s.mem.next + n } = some (.bool (l[c].sends t), { cell := s.mem.cell, mode := s.mem.mode, siz := s.mem.siz, next := s.mem.next + (n + 16) }) := fun n => by
          have := c39' k (by omega) aid l c hcl t _ (hcs.st.bump n)
          simpa using this
        have hfr : ∀ n, s.mem.mode (s.mem.next + n) = .dead := fun n => hcs.fresh _ (by omega)
        simp [e0, e1, e12, e13, hcl, hm2, d4, own70 c hcl, s39, buildSliceA, zeros, hfr]
        have L : Lay s.mem 12 31 (eBool (l[c].sends t)) _ := Lay.alloc s.mem [AVal.bool (l[c].sends t)] 12 31 1 (by omega)
        obtain ⟨inf, i1, i2, i3⟩ := inf4
        obtain ⟨m3, a1, a2, a3, a4, a5⟩ := App.push (P := Tryd.prog) (t := 23) eBool_len Tryd.underlying23 i1 i2 (by omega) zc4 rfl (by omega) happ hcs.fresh hg.next (by simp; omega) L (by omega)
        have hlow : ∀ id, id < m.next → m3.cell id = s.mem.cell id ∧ m3.mode id = s.mem.mode id ∧ m3.siz id = s.mem.siz id := fun id hid => a5 id (Nat.lt_of_lt_of_le hid hg.next) (fun n e => by
          rcases happ with ⟨_, h1⟩ | ⟨id', h1, h2, _⟩
          · rw [h1] at e; cases e
          · rw [h1] at e; cases e; omega)
        have g3 : Grow m m3 := ⟨by have := hg.next; omega, fun id hid => (hlow id hid).1.trans (hg.cell id hid), fun id hid => (hlow id hid).2.1.trans (hg.mode id hid), fun id hid => (hlow id hid).2.2.trans (hg.siz id hid), fun _ => a4⟩
        simp [a1, e0, e1, e12, e13, hww c hcl]
        refine ⟨_, _, ⟨rfl, rfl⟩, ?_⟩
        simp [e0, e1, e12]
        refine ⟨by omega, g3.trans (Grow.bump _ _), c + 1, by omega, by simp, ?_⟩
        rw [List.take_succ_eq_append_getElem (by simpa using hcl)]
        simpa using a2.grow (Grow.bump _ _)
      · have : c = l.length := by omega
        subst this
        simp [e0, e1, e12, e13]
        refine ⟨hg.trans (Grow.bump _ _), ?_⟩
        rw [List.take_length] at happ
        exact happ.grow (Grow.bump _ _))
  obtain ⟨rfl, e0, e1, hg, happ⟩ := hp
  have hcs := hc.grow hg
  have hm2 := hcs.rw
  have d4 := hcs.c4
  obtain ⟨sid, f1, f2, f3, f4⟩ := bools_of happ (by simpa using h0)
  simp only [List.length_map] at f1
  simp [e0, e1, f1, hm2, d4, lenA]
  generalize hl' : cCode C _ _ _ (.loop _) _ = r
  obtain ⟨e, s2, rfl, he, hp⟩ := loop_rule hl' (fun q x => x.env 0 = .ptr cid 0 ∧ x.env 1 = .int .i64 t ∧ x.env 4 = .own sid 0 l.length 1 ∧ x.env 32 = .int .i64 l.length ∧ Keep aid m x.mem ∧ Bools sid (l.map (·.sends t)) x.mem ∧
      ∃ c, c + q = l.length ∧ x.env 33 = .int .i64 (c : Nat) ∧ CM cid aid h ask (upto (begF h ask l t) c l) d out x.mem)
    (fun e x => e = .exit 2 ∧ Keep aid m x.mem ∧ CM cid aid h ask (begL h ask t l) d out x.mem) l.length (by omega) (by
      refine ⟨by simp [e0], by simp [e1], by simp [f1], by simp, (Keep.of_grow hg).trans (Keep.bump _ _ _), ⟨f4.live, f4.cell⟩, 0, by simp, by simp, ?_⟩
      rw [upto_zero]
      exact hcs.bump _) (by
      rintro q x ⟨e0, e1, e4, e32, hkp, hbo, c, hcq, e33, hcm⟩
      by_cases hcl : c < l.length
      · have hm3 := hcm.rw
        have c4' := hcm.c4
        rw [upto_len] at c4'
        have hcl' : c < (upto (begF h ask l t) c l).length := by simpa using hcl
        obtain ⟨g40, h40⟩ := Classical.axiomOfChoice fun n : Nat => c40 cid aid sid h ask (upto (begF h ask l t) c l) d out (l.map (·.sends t)) c t hcl' (by simp) (by simpa using hh) (by simpa using hr) (by simpa using hl) k (by simp; omega) _ (hcm.bump n)
          (⟨hbo.live, hbo.cell⟩ : Bools sid (l.map (·.sends t)) { cell := x.mem.cell, mode := x.mem.mode, siz := x.mem.siz, next := x.mem.next + n })
        simp only [begL_freeAt hcl, List.length_map, Nat.add_assoc] at h40
        have hbf : begF h ask l t c l[c] = if freeAt h l (l.map (·.sends t)) c t = true then begS ask t l[c] else l[c] := rfl
        have hat := upto_at (f := begF h ask l t) hcl
        have hsucc := upto_succ (f := begF h ask l t) hcl
        have hok1 := hok l[c] (List.getElem_mem hcl)
        have ma := hcm.st.rw
        have old : ∀ o, o < 12 → x.mem.cell aid (c * 12 + o) = (eSta l[c])[o]? := fun o ho => by
          have := hcm.st.cell c hcl' o ho
          rw [hat] at this
          exact this
        have x0 : x.mem.cell aid (c * 12) = some (.int .u8 l[c].c.b.cat) := old 0 (by omega)
        have x1 : x.mem.cell aid (c * 12 + 1) = some (.int .i64 (aft l[c].c.b.cat l[c].c.b.t)) := old 1 (by omega)
        have x2 : x.mem.cell aid (c * 12 + 2) = some (.int .i64 l[c].c.b.cnt) := old 2 (by omega)
        have x3 : x.mem.cell aid (c * 12 + 3) = some (.int .i64 l[c].c.b.t) := old 3 (by omega)
        have x5 : x.mem.cell aid (c * 12 + 5) = some (.int .i64 l[c].c.air) := old 5 (by omega)
        have x7 : x.mem.cell aid (c * 12 + 7) = some (.int .i64 l[c].start) := old 7 (by omega)
        have x8 : x.mem.cell aid (c * 12 + 8) = some (.int .i64 l[c].fin) := old 8 (by omega)
        have x9 : x.mem.cell aid (c * 12 + 9) = some (.bool l[c].asked) := old 9 (by omega)
        have x10 : x.mem.cell aid (c * 12 + 10) = some (.bool l[c].spoiled) := old 10 (by omega)
        cases hfree : freeAt h l (l.map (·.sends t)) c t with
        | false =>
          rw [hfree] at hbf h40
          rw [if_neg (by simp)] at hbf
          rw [hbf, set_same (by rw [List.getElem?_eq_getElem hcl', hat])] at hsucc
          simp [e0, e1, e4, e32, e33, hcl, hm3, c4', own70 c hcl, h40, hww c hcl]
          exact ⟨by omega, hkp.trans (Keep.bump _ _ _), ⟨hbo.live, fun i hi => hbo.cell i hi⟩, c + 1, by omega, by simp, by rw [hsucc]; exact hcm.bump _⟩
        | true =>
          rw [hfree] at hbf h40
          rw [if_pos rfl] at hbf
          unfold begS at hbf
          by_cases hcnt : 0 < l[c].c.b.cnt
          · rw [if_pos hcnt] at hbf
            have f41 := c41_idle k (by omega) l[c].c.b hok1.1
            simp only [Bk.enc, Bk.idle] at f41
            simp [e0, e1, e4, e32, e33, hcl, hm3, c4', own70 c hcl, h40, hww c hcl, ma, x0, x1, x2, x3, hcnt, f41]
            generalize hM : Mem.mk _ _ _ _ = M
            have A : At aid c x.mem M := by
              subst hM
              exact ⟨Nat.le_add_right _ _, rfl, rfl, fun id o hno => if_neg (by omega)⟩
            refine ⟨by omega, hkp.trans A.keep, A.bools (by have := hc.st.lt; omega) hbo, c + 1, by omega, by simp, ?_⟩
            rw [hsucc, hbf]
            refine hcm.at hcl' _ A fun o ho => ?_
            have hold := old o ho
            subst hM
            rcases lt12 ho with rfl | rfl | rfl | rfl | rfl | rfl | rfl | rfl | rfl | rfl | rfl | rfl <;> simpa [eSta, eCon, Bk.enc, Bk.idle] using hold
          · rw [if_neg hcnt] at hbf
            have w1 : IntKind.i64.wrap (t + l[c].c.air) = t + l[c].c.air := IntWalk.i64_in _ (by omega)
            have w2 : IntKind.i64.wrap (t + 1) = t + 1 := IntWalk.i64_in _ (by omega)
            have d2 := hcm.c2
            have z7 : ¬ c * 12 + 7 ≤ c * 12 := by omega
            have z8 : ¬ c * 12 + 8 ≤ c * 12 := by omega
            have z9 : ¬ c * 12 + 9 ≤ c * 12 := by omega
            have z10 : ¬ c * 12 + 10 ≤ c * 12 := by omega
            cases ask with
            | false =>
              simp [e0, e1, e4, e32, e33, hcl, hm3, c4', own70 c hcl, h40, hww c hcl, ma, x2, x5, x7, x8, x9, x10, hcnt, w1, d2]
              generalize hM : Mem.mk _ _ _ _ = M
              have A : At aid c x.mem M := by
                subst hM
                refine ⟨Nat.le_add_right _ _, rfl, rfl, fun id o hno => ?_⟩
                simp only []
                repeat rw [if_neg (by omega)]
              refine ⟨by omega, hkp.trans A.keep, A.bools (by have := hc.st.lt; omega) hbo, c + 1, by omega, by simp, ?_⟩
              rw [hsucc, hbf]
              refine hcm.at hcl' _ A fun o ho => ?_
              have hold := old o ho
              subst hM
              rcases lt12 ho with rfl | rfl | rfl | rfl | rfl | rfl | rfl | rfl | rfl | rfl | rfl | rfl <;> simpa [eSta, eCon, Bk.enc, z7, z8, z9, z10] using hold
            | true =>
              simp [e0, e1, e4, e32, e33, hcl, hm3, c4', own70 c hcl, h40, hww c hcl, ma, x2, x5, x7, x8, x9, x10, hcnt, w1, w2, d2]
              generalize hM : Mem.mk _ _ _ _ = M
              have A : At aid c x.mem M := by
                subst hM
                refine ⟨Nat.le_add_right _ _, rfl, rfl, fun id o hno => ?_⟩
                simp only []
                repeat rw [if_neg (by omega)]
              refine ⟨by omega, hkp.trans A.keep, A.bools (by have := hc.st.lt; omega) hbo, c + 1, by omega, by simp, ?_⟩
              rw [hsucc, hbf]
              refine hcm.at hcl' _ A fun o ho => ?_
              have hold := old o ho
              subst hM
              rcases lt12 ho with rfl | rfl | rfl | rfl | rfl | rfl | rfl | rfl | rfl | rfl | rfl | rfl <;> simpa [eSta, eCon, Bk.enc, z7, z8, z9, z10] using hold
      · have : c = l.length := by omega
        subst this
        simp [e0, e1, e4, e32, e33]
        refine ⟨hkp.trans (Keep.bump _ _ _), ?_⟩
        rw [upto_all] at hcm
        exact hcm.bump _)
  obtain ⟨rfl, h1, h2⟩ := hp
  simp
  exact ⟨h2, h1⟩
end Go.Proofs.YtmfdjipijifabaaDoor
end
section
/- The contest: what is on the air. -/
set_option linter.unusedVariables false
set_option linter.unusedSimpArgs false
set_option linter.unnecessarySimpa false
set_option maxRecDepth 100000
namespace Go.Proofs.YtmfdjipijifabaaDoor
open Go.Ab

def eNat (n : Nat) : List AVal := [.int .i64 n]
theorem eNat_len (n : Nat) : (eNat n).length = 1 := rfl

theorem CM.same {cid aid : Nat} {h : List (List Bool)} {ask : Bool} {l : List Sta} {d out : AVal} {m m' : Mem} (hc : CM cid aid h ask l d out m) (hn : m.next ≤ m'.next) (hs : ∀ id, id = cid ∨ id = aid → m'.cell id = m.cell id ∧ m'.mode id = m.mode id ∧ m'.siz id = m.siz id) (hf : Fresh m') : CM cid aid h ask l d out m' := by
  obtain ⟨a1, a2, a3⟩ := hs cid (.inl rfl)
  obtain ⟨b1, b2, b3⟩ := hs aid (.inr rfl)
  refine ⟨Nat.lt_of_lt_of_le hc.lt hn, by rw [a2]; exact hc.rw, by rw [a1]; exact hc.c1, by rw [a1]; exact hc.c2, by rw [a1]; exact hc.c4, by rw [a1]; exact hc.c5, by rw [a1]; exact hc.c6,
    ⟨Nat.lt_of_lt_of_le hc.st.lt hn, by rw [b2]; exact hc.st.rw, by rw [b3]; exact hc.st.siz, fun i hi o ho => by rw [b1]; exact hc.st.cell i hi o ho⟩, hc.ne, hf⟩

/-- The state while it is found out what is on the air. -/
structure AirI (cid aid : Nat) (h : List (List Bool)) (ask : Bool) (l : List Sta) (d out : AVal) (t : Int) (m0 : Mem) (s5 s6 : AVal) (bad ans : List Nat) (m : Mem) : Prop where
  cm : CM cid aid h ask l d out m
  c1 : m.mode m0.next = .rw ∧ m.cell m0.next 0 = some (.ptr cid 0)
  t1 : m.mode (m0.next + 1) = .rw ∧ m.cell (m0.next + 1) 0 = some (.int .i64 t)
  keep : Keep aid m0 m
  nx : m0.next + 2 ≤ m.next
  lo : cid < m0.next ∧ aid < m0.next
  b5 : App eNat 1 s5 bad (m0.next + 2) m
  b6 : App eNat 1 s6 ans (m0.next + 2) m
  sep : ∀ id n n', s5 = .own id 0 n 1 → s6 = .own id 0 n' 1 → False

section
variable {cid aid : Nat} {h : List (List Bool)} {ask : Bool} {l : List Sta} {d out : AVal} {t : Int} {m0 : Mem} {s5 s6 : AVal} {bad ans : List Nat} {m : Mem}
theorem AirI.step {l' : List Sta} {m' : Mem} (H : AirI cid aid h ask l d out t m0 s5 s6 bad ans m) (hk : Keep aid m m') (hc : CM cid aid h ask l' d out m') : AirI cid aid h ask l' d out t m0 s5 s6 bad ans m' := by
  have h1 := H.nx
  have h2 := H.lo
  have low : ∀ id, id < m.next → id ≠ aid → m'.cell id = m.cell id ∧ m'.mode id = m.mode id ∧ m'.siz id = m.siz id := fun id a b => ⟨hk.cell id a b, hk.mode id a, hk.siz id a⟩
  refine ⟨hc, ?_, ?_, H.keep.trans hk, Nat.le_trans h1 hk.next, h2, H.b5.same hk.next fun id n e a b => low id a (by omega), H.b6.same hk.next fun id n e a b => low id a (by omega), H.sep⟩
  · obtain ⟨q1, q2, _⟩ := low m0.next (by omega) (by omega)
    rw [q1, q2]; exact H.c1
  · obtain ⟨q1, q2, _⟩ := low (m0.next + 1) (by omega) (by omega)
    rw [q1, q2]; exact H.t1
theorem AirI.bump (H : AirI cid aid h ask l d out t m0 s5 s6 bad ans m) (n : Nat) : AirI cid aid h ask l d out t m0 s5 s6 bad ans { cell := m.cell, mode := m.mode, siz := m.siz, next := m.next + n } :=
  H.step (Keep.bump _ _ _) (H.cm.bump n)
theorem AirI.symm (H : AirI cid aid h ask l d out t m0 s5 s6 bad ans m) : AirI cid aid h ask l d out t m0 s6 s5 ans bad m :=
  ⟨H.cm, H.c1, H.t1, H.keep, H.nx, H.lo, H.b6, H.b5, fun id n n' a b => H.sep id n' n b a⟩
theorem AirI.push {p p1 q v : Nat} {M2 : Mem} (H : AirI cid aid h ask l d out t m0 s5 s6 bad ans m) (hl : bad.length < 2 ^ 20) (hL : Lay m p q (eNat v) M2) (hp1 : p1 = p + 1) (hpq : p1 < q) :
    ∃ m', appendA Tryd.prog 24 24 s5 (.own (m.next + p) 0 1 1) M2 (m.next + p1) = some (.own (m.next + p1) 0 (bad.length + 1) 1, m') ∧ AirI cid aid h ask l d out t m0 (.own (m.next + p1) 0 (bad.length + 1) 1) s6 (bad ++ [v]) ans m' := by
  subst hp1
  obtain ⟨inf, i1, i2, i3⟩ := inf3
  have h1 := H.nx
  have h2 := H.lo
  obtain ⟨m', a1, a2, a3, a4, a5⟩ := App.push (P := Tryd.prog) (t := 24) eNat_len Tryd.underlying24 i1 i2 (by omega) zc3 rfl (by omega) H.b5 H.cm.fresh h1 hl hL hpq
  have low : ∀ id, id < m0.next + 2 → m'.cell id = m.cell id ∧ m'.mode id = m.mode id ∧ m'.siz id = m.siz id := fun id hid => a5 id (by omega) (fun n e => by
    rcases H.b5 with ⟨_, g⟩ | ⟨id', g, g2, _⟩
    · rw [g] at e; cases e
    · rw [g] at e; cases e; omega)
  refine ⟨m', a1, H.cm.same (by omega) (fun id e => low id (by omega)) a4, ?_, ?_, ⟨?_, fun id hid hne => ?_, fun id hid => ?_, fun id hid => ?_⟩, by omega, h2, a2, ?_, fun id n n' e e' => ?_⟩
  · rw [(low m0.next (by omega)).1, (low m0.next (by omega)).2.1]; exact H.c1
  · rw [(low (m0.next + 1) (by omega)).1, (low (m0.next + 1) (by omega)).2.1]; exact H.t1
  · have := H.keep.next; omega
  · rw [(low id (by omega)).1]; exact H.keep.cell id hid hne
  · rw [(low id (by omega)).2.1]; exact H.keep.mode id hid
  · rw [(low id (by omega)).2.2]; exact H.keep.siz id hid
  · exact H.b6.same (by omega) fun id n e hid _ => a5 id hid fun n' e' => H.sep id n' n e' e
  · cases e
    rcases H.b6 with ⟨_, g⟩ | ⟨id', g, _, g3, _⟩
    · rw [g] at e'; cases e'
    · rw [g] at e'; cases e'; omega
end

theorem range_filter (p : Nat → Bool) (c : Nat) : (List.range (c + 1)).filter p = (List.range c).filter p ++ (if p c then [c] else []) := by
  rw [List.range_succ, List.filter_append]
  congr 1
  cases h : p c <;> simp [h]

theorem c22 (cid aid : Nat) (h : List (List Bool)) (ask : Bool) (l : List Sta) (d out : AVal) (t : Int) (hh : h.length = l.length) (hr : ∀ i (hi : i < h.length), h[i].length = l.length) (hl : l.length < 2 ^ 20)
    (ht : 0 ≤ t ∧ t ≤ 10000) (hok : ∀ s ∈ l, s.c.to < l.length ∧ 0 ≤ s.c.air ∧ s.c.air ≤ 200)
    (k : Nat) (hk : l.length + 10 ≤ k) (m : Mem) (hc : CM cid aid h ask l d out m) :
    ∃ m', cCall C T k 22 [.ptr cid 0, .int .i64 t] m = some (.tup [], m') ∧ CM cid aid h ask (airL h ask t l) d out m' ∧ Keep aid m m' := by
  obtain ⟨k, rfl⟩ : ∃ j, k = j + 1 := ⟨k - 1, by omega⟩
  simp only [cCall, kd22]
  rw [body22]
  have hm := hc.rw
  have c4 := hc.c4
  have lc := hc.lt
  have la := hc.st.lt
  have own70 : ∀ q : Nat, q < l.length → indexAddrA Tryd.prog 70 (.own aid 0 l.length 12) (.int .i64 q) = some (.ptr aid (q * 12)) := fun q hq => by simp [indexAddrA, hq]
  have hww : ∀ c : Nat, c < l.length → IntKind.i64.wrap ((c : Int) + 1) = ((c + 1 : Nat) : Int) := fun c hc => IntWalk.i64_in _ (by omega)
  have hne1 : ¬ cid = m.next := by omega
  have hne2 : ¬ cid = m.next + 1 := by omega
  have hd0 : ∀ n, m.mode (m.next + n) = .dead := fun n => hc.fresh _ (by omega)
  have hd1 : m.mode m.next = .dead := hc.fresh _ (by omega)
  have hl70 : lenA Tryd.prog 70 (.own aid 0 l.length 12) = some (.int .i64 l.length) := by simp [lenA]
  simp [codeOf, Tryd.f22, hm, c4, hl70, hd0, hd1, hne1, hne2]
  generalize hl' : cCode C _ _ _ (.loop _) _ = r
  obtain ⟨e, s', rfl, he, hp⟩ := loop_rule hl' (fun q s => s.env 2 = .ptr m.next 0 ∧ s.env 3 = .ptr (m.next + 1) 0 ∧ s.env 4 = .fn 42 [] [.ptr m.next 0, .ptr (m.next + 1) 0] ∧ s.env 21 = .int .i64 l.length ∧
      ∃ c, c + q = l.length ∧ s.env 22 = .int .i64 (c : Nat) ∧ AirI cid aid h ask l d out t m (s.env 5) (s.env 6) ((List.range c).filter (badAt h ask l t)) ((List.range c).filter (ansAt h ask l t)) s.mem)
    (fun e s => e = .exit 0 ∧ s.env 2 = .ptr m.next 0 ∧ s.env 3 = .ptr (m.next + 1) 0 ∧ AirI cid aid h ask l d out t m (s.env 5) (s.env 6) (badL h ask t l) (ansI h ask t l) s.mem) l.length (by omega) (by
      refine ⟨by simp, by simp, by simp, by simp, 0, by simp, by simp, ?_⟩
      show AirI cid aid h ask l d out t m .nils .nils [] [] _
      have low : ∀ id, id < m.next → ¬ id = m.next ∧ ¬ id = m.next + 1 := fun id h => by omega
      refine ⟨hc.same (Nat.le_add_right _ _) (fun id e => ?_) (fun id hid => ?_), ⟨by simp [upd], by simp⟩, ⟨by simp [upd], by simp⟩, ⟨Nat.le_add_right _ _, fun id hid _ => ?_, fun id hid => ?_, fun id hid => ?_⟩, by show m.next + 2 ≤ m.next + 12; omega, ⟨lc, la⟩, App.nil, App.nil, fun id n n' e => by cases e⟩
      · obtain ⟨q1, q2⟩ := low id (by omega)
        simp [upd, q1, q2]
      · have : m.next + 12 ≤ id := hid
        have q1 : ¬ id = m.next := by omega
        have q2 : ¬ id = m.next + 1 := by omega
        simp [upd, q1, q2]
        exact hc.fresh id (by omega)
      · obtain ⟨q1, q2⟩ := low id (by omega)
        simp [q1, q2]
      · obtain ⟨q1, q2⟩ := low id (by omega)
        simp [upd, q1, q2]
      · obtain ⟨q1, q2⟩ := low id (by omega)
        simp [upd, q1, q2]) (by
      rintro q s ⟨e2, e3, e4, e21, c, hcq, e22, H⟩
      by_cases hcl : c < l.length
      · have hcs := H.cm
        have hm2 := hcs.rw
        have ma := hcs.st.rw
        have d4 := hcs.c4
        have d2 := hcs.c2
        obtain ⟨x1, x2⟩ := H.c1
        obtain ⟨y1, y2⟩ := H.t1
        have hoc := hok l[c] (List.getElem_mem hcl)
        have s39 : ∀ n, cCall C T k 39 [.ptr aid (c * 12), .int .i64 t] { cell := s.mem.cell, mode := s.mem.mode, siz := s.mem.siz, next := s.mem.next + n } = some (.bool (l[c].sends t), { cell := s.mem.cell, mode := s.mem.mode, siz := s.mem.siz, next := s.mem.next + (n + 16) }) := fun n => by
          have := c39' k (by omega) aid l c hcl t _ (hcs.st.bump n)
          simpa using this
        obtain ⟨g42, s42⟩ := Classical.axiomOfChoice fun n : Nat => c42 cid aid m.next (m.next + 1) h ask l d out c t hcl hh hr hoc.1 hl k (by omega) { cell := s.mem.cell, mode := s.mem.mode, siz := s.mem.siz, next := s.mem.next + n } (hcs.bump n) ⟨x1, x2⟩ ⟨y1, y2⟩
        simp only [Nat.add_assoc] at s42
        have f6 : s.mem.cell aid (c * 12 + 6) = some (.int .i64 l[c].c.to) := hcs.st.cell c hcl 6 (by omega)
        have f7 : s.mem.cell aid (c * 12 + 7) = some (.int .i64 l[c].start) := hcs.st.cell c hcl 7 (by omega)
        have fr : s.mem.cell aid (l[c].c.to * 12 + 11) = some (.int .i64 (l[l[c].c.to]'hoc.1).reserved) := hcs.st.cell _ hoc.1 11 (by omega)
        have hto := own70 _ hoc.1
        have hfr : ∀ n, s.mem.mode (s.mem.next + n) = .dead := fun n => hcs.fresh _ (by omega)
        have lbad : ((List.range c).filter (badAt h ask l t)).length < 2 ^ 20 := Nat.lt_of_le_of_lt (List.length_filter_le _ _) (by rw [List.length_range]; omega)
        have lans : ((List.range c).filter (ansAt h ask l t)).length < 2 ^ 20 := Nat.lt_of_le_of_lt (List.length_filter_le _ _) (by rw [List.length_range]; omega)
        have rb := range_filter (badAt h ask l t) c
        have ra := range_filter (ansAt h ask l t) c
        have hon : onAt l c t = l[c].sends t := by simp [onAt, hcl]
        have hrq : reqAt ask l c t = (ask && decide (l[c].start = t)) := by simp [reqAt, hcl]
        have hhd : heldAt l c t = decide (t < (l[l[c].c.to]'hoc.1).reserved) := by simp [heldAt, hcl, hoc.1]
        have hbad : badAt h ask l t c = (l[c].sends t && (distAt h l c t || ((ask && decide (l[c].start = t)) && decide (t < (l[l[c].c.to]'hoc.1).reserved)))) := by unfold badAt; rw [hon, hrq, hhd]
        have hans : ansAt h ask l t c = (l[c].sends t && (!(distAt h l c t || ((ask && decide (l[c].start = t)) && decide (t < (l[l[c].c.to]'hoc.1).reserved))) && (ask && decide (l[c].start = t)))) := by unfold ansAt; rw [hon, hrq, hhd]
        cases hso : l[c].sends t with
        | false =>
          rw [hso] at s39 hbad hans
          simp [e2, e3, e4, e21, e22, hcl, hm2, ma, d4, d2, x1, x2, y1, y2, own70 c hcl, s39, hww c hcl]
          refine ⟨by omega, c + 1, by omega, by simp, ?_⟩
          rw [rb, ra, if_neg (by rw [hbad]; simp), if_neg (by rw [hans]; simp), List.append_nil, List.append_nil]
          exact H.bump _
        | true =>
          rw [hso] at s39 hbad hans
          cases hdi : distAt h l c t with
          | true =>
            rw [hdi] at s42 hbad hans
            cases ask with
            | false =>
              obtain ⟨m3, a1, a2⟩ := H.push (v := c) lbad (Lay.alloc s.mem (eNat c) (32 + (g42 32 + 44)) (32 + (g42 32 + 47)) 1 (by omega)) (p1 := 32 + (g42 32 + 45)) (by omega) (by omega)
              simp only [eNat] at a1
              simp [e2, e3, e4, e21, e22, hcl, hm2, ma, d4, d2, x1, x2, y1, y2, own70 c hcl, s39, hww c hcl, s42, buildSliceA, zeros, hfr, a1]
              refine ⟨by omega, c + 1, by omega, by simp, ?_⟩
              rw [rb, ra, if_pos (by rw [hbad]; simp), if_neg (by rw [hans]; simp), List.append_nil]
              exact a2.bump _
            | true =>
              obtain ⟨m3, a1, a2⟩ := H.push (v := c) lbad (Lay.alloc s.mem (eNat c) (32 + (g42 32 + 44)) (32 + (g42 32 + 47)) 1 (by omega)) (p1 := 32 + (g42 32 + 45)) (by omega) (by omega)
              simp only [eNat] at a1
              simp [e2, e3, e4, e21, e22, hcl, hm2, ma, d4, d2, x1, x2, y1, y2, own70 c hcl, s39, hww c hcl, s42, f7, buildSliceA, zeros, hfr, a1]
              refine ⟨by omega, c + 1, by omega, by simp, ?_⟩
              rw [rb, ra, if_pos (by rw [hbad]; simp), if_neg (by rw [hans]; simp), List.append_nil]
              exact a2.bump _
          | false =>
            rw [hdi] at s42 hbad hans
            cases ask with
            | false =>
              simp [e2, e3, e4, e21, e22, hcl, hm2, ma, d4, d2, x1, x2, y1, y2, own70 c hcl, s39, hww c hcl, s42]
              refine ⟨by omega, c + 1, by omega, by simp, ?_⟩
              rw [rb, ra, if_neg (by rw [hbad]; simp), if_neg (by rw [hans]; simp), List.append_nil, List.append_nil]
              exact H.bump _
            | true =>
              by_cases hst : l[c].start = t
              · rw [decide_eq_true hst] at hbad hans
                rw [hst] at f7
                by_cases hre : t < (l[l[c].c.to]'hoc.1).reserved
                · rw [decide_eq_true hre] at hbad hans
                  obtain ⟨m3, a1, a2⟩ := H.push (v := c) lbad (Lay.alloc s.mem (eNat c) (32 + (g42 32 + 44)) (32 + (g42 32 + 47)) 1 (by omega)) (p1 := 32 + (g42 32 + 45)) (by omega) (by omega)
                  simp only [eNat] at a1
                  simp [e2, e3, e4, e21, e22, hcl, hm2, ma, d4, d2, x1, x2, y1, y2, own70 c hcl, s39, hww c hcl, s42, f6, f7, fr, hto, hre, buildSliceA, zeros, hfr, a1]
                  refine ⟨by omega, c + 1, by omega, by simp, ?_⟩
                  rw [rb, ra, if_pos (by rw [hbad]; simp), if_neg (by rw [hans]; simp), List.append_nil]
                  exact a2.bump _
                · rw [decide_eq_false hre] at hbad hans
                  obtain ⟨m3, a1, a2⟩ := H.symm.push (v := c) lans (Lay.alloc s.mem (eNat c) (32 + (g42 32 + 45)) (32 + (g42 32 + 48)) 1 (by omega)) (p1 := 32 + (g42 32 + 46)) (by omega) (by omega)
                  simp only [eNat] at a1
                  simp [e2, e3, e4, e21, e22, hcl, hm2, ma, d4, d2, x1, x2, y1, y2, own70 c hcl, s39, hww c hcl, s42, f6, f7, fr, hto, hre, buildSliceA, zeros, hfr, a1]
                  refine ⟨by omega, c + 1, by omega, by simp, ?_⟩
                  rw [rb, ra, if_neg (by rw [hbad]; simp), if_pos (by rw [hans]; simp), List.append_nil]
                  exact a2.symm.bump _
              · rw [decide_eq_false hst] at hbad hans
                have hsb : (l[c].start == t) = false := by simp [hst]
                simp [e2, e3, e4, e21, e22, hcl, hm2, ma, d4, d2, x1, x2, y1, y2, own70 c hcl, s39, hww c hcl, s42, f7, hst, hsb]
                refine ⟨by omega, c + 1, by omega, by simp, ?_⟩
                rw [rb, ra, if_neg (by rw [hbad]; simp), if_neg (by rw [hans]; simp), List.append_nil, List.append_nil]
                exact H.bump _
      · have : c = l.length := by omega
        subst this
        simp [e2, e3, e21, e22]
        exact H.bump _)
  obtain ⟨rfl, e2, e3, H⟩ := hp
  have l5 := H.b5.lenA (P := Tryd.prog) Tryd.underlying24
  have l6 := H.b6.lenA (P := Tryd.prog) Tryd.underlying24
  generalize hs5 : s'.env 5 = s5 at H l5
  generalize hs6 : s'.env 6 = s6 at H l6
  have blt : ∀ i ∈ badL h ask t l, i < l.length := fun i hi => by simpa using (List.mem_filter.1 hi).1
  have alt : ∀ i ∈ ansI h ask t l, i < l.length := fun i hi => by simpa using (List.mem_filter.1 hi).1
  have bnd : (badL h ask t l).Nodup := List.Pairwise.filter _ List.nodup_range
  have and' : (ansI h ask t l).Nodup := List.Pairwise.filter _ List.nodup_range
  have ble : (badL h ask t l).length ≤ l.length := Nat.le_trans (List.length_filter_le _ _) (by simp)
  have ale : (ansI h ask t l).length ≤ l.length := Nat.le_trans (List.length_filter_le _ _) (by simp)
  have own24 : ∀ (id n q : Nat), q < n → indexAddrA Tryd.prog 24 (.own id 0 n 1) (.int .i64 q) = some (.ptr id q) := fun id n q hq => by simp [indexAddrA, hq]
  have snoc : ∀ (is : List Nat) (c : Nat) (hc : c < is.length), is.take (c + 1) = is.take c ++ [is[c]] := fun is c hc => List.take_succ_eq_append_getElem hc
  have fresh' : ∀ (is : List Nat) (c : Nat) (hc : c < is.length), is.Nodup → is[c] ∉ is.take c := fun is c hc hn hm => by
    obtain ⟨j, hj, e⟩ := List.mem_take_iff_getElem.1 hm
    have := (List.getElem_inj hn).1 e
    omega
  simp [e2, e3, hs5, hs6, l5]
  generalize hl' : cCode C _ _ _ (.loop _) _ = r
  obtain ⟨e, x, rfl, he, hp⟩ := loop_rule hl' (fun q x => x.env 2 = .ptr m.next 0 ∧ x.env 3 = .ptr (m.next + 1) 0 ∧ x.env 6 = s6 ∧ x.env 88 = s5 ∧ x.env 89 = .int .i64 (badL h ask t l).length ∧
      ∃ c, c + q = (badL h ask t l).length ∧ x.env 90 = .int .i64 (c : Nat) ∧ AirI cid aid h ask (touch spoil ((badL h ask t l).take c) l) d out t m s5 s6 (badL h ask t l) (ansI h ask t l) x.mem)
    (fun e x => e = .exit 2 ∧ x.env 2 = .ptr m.next 0 ∧ x.env 3 = .ptr (m.next + 1) 0 ∧ x.env 6 = s6 ∧ AirI cid aid h ask (touch spoil (badL h ask t l) l) d out t m s5 s6 (badL h ask t l) (ansI h ask t l) x.mem) (badL h ask t l).length (by omega) (by
      refine ⟨by simp [e2], by simp [e3], by simp [hs6], by simp, by simp, 0, by simp, by simp, ?_⟩
      rw [List.take_zero, touch_nil]
      exact H.bump _) (by
      rintro q x ⟨e2, e3, e6, e88, e89, c, hcq, e90, H⟩
      by_cases hcl : c < (badL h ask t l).length
      · obtain ⟨id, g1, g2, g3, g4, g5⟩ := H.b5.get eNat_len hcl
        have g6 := g5 0 (by omega)
        have hi : (badL h ask t l)[c] < l.length := blt _ (List.getElem_mem hcl)
        have hni := fresh' _ c hcl bnd
        have hsn := touch_snoc (f := spoil) hi hni
        rw [← snoc _ c hcl] at hsn
        generalize hiv : (badL h ask t l)[c] = i at hi hni hsn g6
        simp [eNat] at g6
        have hcm := H.cm
        have hm2 := hcm.rw
        have ma := hcm.st.rw
        have d4 := hcm.c4
        rw [touch_len] at d4
        obtain ⟨x1, x2⟩ := H.c1
        have hil : i < (touch spoil ((badL h ask t l).take c) l).length := by simpa using hi
        have hat : (touch spoil ((badL h ask t l).take c) l)[i] = l[i] := by
          have := touch_get (f := spoil) (is := (badL h ask t l).take c) (l := l) i
          rw [List.getElem?_eq_getElem hil, List.getElem?_eq_getElem hi] at this
          simpa [hni] using this
        have old : ∀ o, o < 12 → x.mem.cell aid (i * 12 + o) = (eSta l[i])[o]? := fun o ho => by
          have := hcm.st.cell i hil o ho
          rw [hat] at this
          exact this
        have f10 : x.mem.cell aid (i * 12 + 10) = some (.bool l[i].spoiled) := old 10 (by omega)
        have wc := hww c (by omega)
        have z10 : ¬ i * 12 + 10 ≤ i * 12 := by omega
        simp [e2, e3, e6, e88, e89, e90, hcl, g1, own24 id _ c hcl, g4, g6, x1, x2, hm2, d4, own70 i hi, ma, f10, wc]
        generalize hM : Mem.mk _ _ _ _ = M
        have A : At aid i x.mem M := by
          subst hM
          refine ⟨Nat.le_add_right _ _, rfl, rfl, fun id o hno => ?_⟩
          simp only []
          repeat rw [if_neg (by omega)]
        refine ⟨by omega, c + 1, by omega, by simp, ?_⟩
        rw [hsn, ← g1]
        refine H.step A.keep (hcm.at hil _ A fun o ho => ?_)
        have hold := old o ho
        subst hM
        rcases lt12 ho with rfl | rfl | rfl | rfl | rfl | rfl | rfl | rfl | rfl | rfl | rfl | rfl <;> simpa [eSta, eCon, Bk.enc, spoil, z10] using hold
      · have : c = (badL h ask t l).length := by omega
        subst this
        rw [List.take_length] at H
        simp [e2, e3, e6, e89, e90]
        exact H.bump _)
  obtain ⟨rfl, e2, e3, e6, H⟩ := hp
  generalize hlA : touch spoil (badL h ask t l) l = lA at H
  have lenA' : lA.length = l.length := by rw [← hlA]; simp
  have atA : ∀ (i : Nat) (hi : i < l.length), (lA[i]'(by omega)).c = l[i].c := fun i hi => by
    have := touch_get (f := spoil) (is := badL h ask t l) (l := l) i
    rw [hlA, List.getElem?_eq_getElem (by omega), List.getElem?_eq_getElem hi] at this
    simp only [Option.map_some, Option.some.injEq] at this
    rw [this]
    split <;> rfl
  simp [e2, e3, e6, l6]
  generalize hl' : cCode C _ _ _ (.loop _) _ = r
  obtain ⟨e, y, rfl, he, hp⟩ := loop_rule hl' (fun q x => x.env 2 = .ptr m.next 0 ∧ x.env 3 = .ptr (m.next + 1) 0 ∧ x.env 6 = s6 ∧ x.env 102 = s6 ∧ x.env 103 = .int .i64 (ansI h ask t l).length ∧
      ∃ c, c + q = (ansI h ask t l).length ∧ x.env 104 = .int .i64 (c : Nat) ∧ AirI cid aid h ask (touch (grant t) ((ansI h ask t l).take c) lA) d out t m s5 s6 (badL h ask t l) (ansI h ask t l) x.mem)
    (fun e x => e = .exit 4 ∧ x.env 2 = .ptr m.next 0 ∧ x.env 6 = s6 ∧ AirI cid aid h ask (touch (grant t) (ansI h ask t l) lA) d out t m s5 s6 (badL h ask t l) (ansI h ask t l) x.mem) (ansI h ask t l).length (by omega) (by
      refine ⟨by simp [e2], by simp [e3], by simp [e6], by simp, by simp, 0, by simp, by simp, ?_⟩
      rw [List.take_zero, touch_nil]
      exact H.bump _) (by
      rintro q x ⟨e2, e3, e6, e102, e103, c, hcq, e104, H⟩
      by_cases hcl : c < (ansI h ask t l).length
      · obtain ⟨id, g1, g2, g3, g4, g5⟩ := H.b6.get eNat_len hcl
        have g6 := g5 0 (by omega)
        have hi : (ansI h ask t l)[c] < lA.length := by rw [lenA']; exact alt _ (List.getElem_mem hcl)
        have hni := fresh' _ c hcl and'
        have hsn := touch_snoc (f := grant t) hi hni
        rw [← snoc _ c hcl] at hsn
        generalize hiv : (ansI h ask t l)[c] = i at hi hni hsn g6
        simp [eNat] at g6
        have hcm := H.cm
        have hm2 := hcm.rw
        have ma := hcm.st.rw
        have d4 := hcm.c4
        rw [touch_len, lenA'] at d4
        obtain ⟨x1, x2⟩ := H.c1
        obtain ⟨y1, y2⟩ := H.t1
        have hil : i < (touch (grant t) ((ansI h ask t l).take c) lA).length := by simpa using hi
        have hat : (touch (grant t) ((ansI h ask t l).take c) lA)[i] = lA[i] := by
          have := touch_get (f := grant t) (is := (ansI h ask t l).take c) (l := lA) i
          rw [List.getElem?_eq_getElem hil, List.getElem?_eq_getElem hi] at this
          simpa [hni] using this
        have hi' : i < l.length := by omega
        have hoi := hok l[i] (List.getElem_mem hi')
        rw [← atA i hi'] at hoi
        have old : ∀ o, o < 12 → x.mem.cell aid (i * 12 + o) = (eSta lA[i])[o]? := fun o ho => by
          have := hcm.st.cell i hil o ho
          rw [hat] at this
          exact this
        have f5 : x.mem.cell aid (i * 12 + 5) = some (.int .i64 lA[i].c.air) := old 5 (by omega)
        have f8 : x.mem.cell aid (i * 12 + 8) = some (.int .i64 lA[i].fin) := old 8 (by omega)
        have f9 : x.mem.cell aid (i * 12 + 9) = some (.bool lA[i].asked) := old 9 (by omega)
        have wc := hww c (by omega)
        have w1 : IntKind.i64.wrap (t + 1) = t + 1 := IntWalk.i64_in _ (by omega)
        have w2 : IntKind.i64.wrap (t + 1 + lA[i].c.air) = t + 1 + lA[i].c.air := IntWalk.i64_in _ (by omega)
        have z8 : ¬ i * 12 + 8 ≤ i * 12 := by omega
        have z9 : ¬ i * 12 + 9 ≤ i * 12 := by omega
        have hne1 : ¬ m.next = aid := by omega
        have hne2 : ¬ m.next + 1 = aid := by omega
        have hne3 : ¬ cid = aid := hcm.ne
        simp [e2, e3, e6, e102, e103, e104, hcl, g1, own24 id _ c hcl, g4, g6, x1, x2, y1, y2, hm2, d4, own70 i hi', ma, f5, f8, f9, wc, w1, w2, hne1, hne2, hne3]
        generalize hM : Mem.mk _ _ _ _ = M
        have A : At aid i x.mem M := by
          subst hM
          refine ⟨Nat.le_add_right _ _, rfl, rfl, fun id o hno => ?_⟩
          simp only []
          repeat rw [if_neg (by omega)]
        refine ⟨by omega, c + 1, by omega, by simp, ?_⟩
        rw [hsn, ← g1]
        refine H.step A.keep (hcm.at hil _ A fun o ho => ?_)
        have hold := old o ho
        subst hM
        rcases lt12 ho with rfl | rfl | rfl | rfl | rfl | rfl | rfl | rfl | rfl | rfl | rfl | rfl <;> simpa [eSta, eCon, Bk.enc, grant, z8, z9] using hold
      · have : c = (ansI h ask t l).length := by omega
        subst this
        rw [List.take_length] at H
        simp [e2, e3, e6, e103, e104]
        exact H.bump _)
  obtain ⟨rfl, e2, e6, H⟩ := hp
  generalize hlB : touch (grant t) (ansI h ask t l) lA = lB at H
  have lenB : lB.length = l.length := by rw [← hlB]; simp [lenA']
  have atB : ∀ (i : Nat) (hi : i < l.length), (lB[i]'(by omega)).c = l[i].c := fun i hi => by
    have := touch_get (f := grant t) (is := ansI h ask t l) (l := lA) i
    rw [hlB, List.getElem?_eq_getElem (by omega), List.getElem?_eq_getElem (by omega)] at this
    simp only [Option.map_some, Option.some.injEq] at this
    rw [this, ← atA i hi]
    split <;> rfl
  simp [e2, e6, l6]
  generalize hl' : cCode C _ _ _ (.loop _) _ = r
  obtain ⟨e, z, rfl, he, hp⟩ := loop_rule hl' (fun q x => x.env 2 = .ptr m.next 0 ∧ x.env 135 = s6 ∧ x.env 136 = .int .i64 (ansI h ask t l).length ∧
      ∃ c, c + q = (ansI h ask t l).length ∧ x.env 137 = .int .i64 (c : Nat) ∧ AirI cid aid h ask (answers h ((ansI h ask t l).take c) lB) d out t m s5 s6 (badL h ask t l) (ansI h ask t l) x.mem)
    (fun e x => e = .exit 6 ∧ AirI cid aid h ask (answers h (ansI h ask t l) lB) d out t m s5 s6 (badL h ask t l) (ansI h ask t l) x.mem) (ansI h ask t l).length (by omega) (by
      refine ⟨by simp [e2], by simp, by simp, 0, by simp, by simp, ?_⟩
      exact H.bump _) (by
      rintro q x ⟨e2, e135, e136, c, hcq, e137, H⟩
      by_cases hcl : c < (ansI h ask t l).length
      · obtain ⟨id, g1, g2, g3, g4, g5⟩ := H.b6.get eNat_len hcl
        have g6 := g5 0 (by omega)
        have hi : (ansI h ask t l)[c] < l.length := alt _ (List.getElem_mem hcl)
        have hcore := answers_core (h := h) ((ansI h ask t l).take c) lB
        have hlen : (answers h ((ansI h ask t l).take c) lB).length = l.length := by
          have := congrArg List.length hcore
          simpa [lenB] using this
        have hstep : answers h ((ansI h ask t l).take (c + 1)) lB = ansL h (answers h ((ansI h ask t l).take c) lB) (ansI h ask t l)[c] (answers h ((ansI h ask t l).take c) lB).length := by
          rw [snoc _ c hcl]
          simp only [answers, List.foldl_append, List.foldl_cons, List.foldl_nil]
        generalize hiv : (ansI h ask t l)[c] = i at hi g6 hstep
        simp [eNat] at g6
        have hil : i < (answers h ((ansI h ask t l).take c) lB).length := by omega
        have hto : (answers h ((ansI h ask t l).take c) lB)[i].c.to < (answers h ((ansI h ask t l).take c) lB).length := by
          have e1 := congrArg (·[i]?) hcore
          simp only [List.getElem?_map, List.getElem?_eq_getElem hil, List.getElem?_eq_getElem (show i < lB.length by omega), Option.map_some, Option.some.injEq] at e1
          have e2 := congrArg Sta.c e1
          simp only [Sta.core] at e2
          rw [e2, atB i hi, hlen]
          exact (hok l[i] (List.getElem_mem hi)).1
        have hcm := H.cm
        obtain ⟨x1, x2⟩ := H.c1
        obtain ⟨mm, hmm⟩ := Classical.axiomOfChoice fun n : Nat => c43 cid aid h ask (answers h ((ansI h ask t l).take c) lB) d out i hil (by omega) (by rw [hlen]; exact hr) hto (by omega) k (by omega) _ (hcm.bump n)
        have wc := hww c (by omega)
        simp [e2, e135, e136, e137, hcl, g1, own24 id _ c hcl, g4, g6, x1, x2, fun n => (hmm n).1, wc]
        refine ⟨by omega, c + 1, by omega, by simp, ?_⟩
        rw [← g1, hstep]
        exact (H.step ((Keep.bump _ _ _).trans (hmm _).2.2) (hmm _).2.1).bump _
      · have : c = (ansI h ask t l).length := by omega
        subst this
        rw [List.take_length] at H
        simp [e2, e135, e136, e137]
        exact H.bump _)
  obtain ⟨rfl, H⟩ := hp
  simp
  refine ⟨?_, H.keep⟩
  have : airL h ask t l = answers h (ansI h ask t l) lB := by rw [← hlB, ← hlA]; rfl
  rw [this]
  exact H.cm
end Go.Proofs.YtmfdjipijifabaaDoor
end
section
/- The contest: draws. -/
set_option linter.unusedVariables false
set_option linter.unusedSimpArgs false
set_option linter.unnecessarySimpa false
set_option maxRecDepth 100000
namespace Go.Proofs.YtmfdjipijifabaaDoor
open Go.Ab

theorem sliceFrom {α : Type} {enc : α → List AVal} {sz : Nat} (he : ∀ x, (enc x).length = sz) {P : Program} {t e : TypeId} (hu : P.underlying t = some (.slice e)) (hs : sizeT P e = some sz) (x : α) (r : List α) (k : IntKind) :
    ∃ a', (∀ m, sliceA P t (.imm (r.length + 1) ((x :: r).flatMap enc)) (some (.int k 1)) none none m = some a') ∧ SL enc a' r := by
  have hk : (1 : Int) ≤ ((r.length + 1 : Nat) : Int) := by omega
  have hk' : (1 : Int) ≤ (r.length : Int) + 1 := by omega
  refine ⟨_, fun m => by simp [sliceA, hu, hs, boundsA, boundA, hk']; rfl, .inr ?_⟩
  congr 1
  have h1 := he x
  rw [List.drop_append_of_le_length (by omega), List.drop_of_length_le (by omega), List.nil_append, List.take_of_length_le (by rw [flatMap_len he]; omega)]

theorem c44 (cid aid : Nat) (h : List (List Bool)) (ask : Bool) (l : List Sta) (d out : AVal) (ds : List Int) (hds : SL eInt d ds)
    (k : Nat) (hk : 2 ≤ k) (m : Mem) (hc : CM cid aid h ask l d out m) :
    ∃ d' m', cCall C T k 44 [.ptr cid 0] m = some (.int .i64 (ds.headD 0), m') ∧ SL eInt d' ds.tail ∧ m.next ≤ m'.next ∧ m'.mode = m.mode ∧ (∀ id, id < m.next → m'.siz id = m.siz id) ∧
      (∀ id o, id < m.next → ¬ (id = cid ∧ o = 5) → m'.cell id o = m.cell id o) ∧ m'.cell cid 5 = some d' := by
  obtain ⟨k, rfl⟩ : ∃ j, k = j + 1 := ⟨k - 1, by omega⟩
  simp only [cCall, kd44]
  rw [body44]
  have hm := hc.rw
  have c5 := hc.c5
  have hlt := hc.lt
  have hla := hds.len (P := Tryd.prog) Tryd.underlying24
  cases ds with
  | nil =>
    simp [codeOf, Tryd.f44, restrict, unrestrict, shown, idsOf, hm, c5, hla]
    refine ⟨d, hds, ?_, ?_, ?_, rfl⟩
    · funext id
      by_cases h1 : id = 0 ∨ id = cid
      · have h2 : ¬ (id < m.next ∧ ¬ id = 0 ∧ ¬ id = cid) := by omega
        rw [if_neg h2, if_pos h1]
      · by_cases h2 : id < m.next
        · rw [if_pos ⟨h2, by omega, by omega⟩]
        · rw [if_neg (by omega), if_neg h1]
          exact (hc.fresh id (by omega)).symm
    · intro id h1 h2 h3 h4
      exact absurd (h2 h1 h3) h4
    · intro id o h1 h2 h3 h4 h5
      exact absurd (h3 h1 h4) h5
  | cons x r =>
    have hd : d = .imm (r.length + 1) ((x :: r).flatMap eInt) := by
      rcases hds with ⟨h, _⟩ | h
      · cases h
      · exact h
    have hix := (sl_imm eInt (x :: r)).indexAddr (P := Tryd.prog) Tryd.underlying24 sz3 eInt_len (k := .i64) (i := 0) (by simp)
    simp only [List.length_cons] at hix
    obtain ⟨d', h1, h2⟩ := sliceFrom eInt_len (P := Tryd.prog) Tryd.underlying24 sz3 x r .i64
    have hz : ((r.length : Int) + 1 == 0) = false := by
      have : ¬ (r.length : Int) + 1 = 0 := by omega
      simp [this]
    rw [← hd] at hix h1
    clear hd
    simp at hix hla
    have hshape : d' = .nils ∨ d' = .emp ∨ ∃ n cs, d' = .imm n cs := by
      rcases h2 with ⟨_, h | h⟩ | h
      · exact .inl h
      · exact .inr (.inl h)
      · exact .inr (.inr ⟨_, _, h⟩)
    generalize hdd : d' = dd at h1 hshape
    have key : ∀ (n : Nat), ∃ d' m', some ((AVal.int .i64 x), unrestrict m C.ng ([AVal.ptr cid 0].flatMap idsOf) { cell := fun i o => if i = cid ∧ 5 ≤ o ∧ o < 6 then [dd][o - 5]? else (restrict m C.ng ([AVal.ptr cid 0].flatMap idsOf)).cell i o, mode := (restrict m C.ng ([AVal.ptr cid 0].flatMap idsOf)).mode, siz := (restrict m C.ng ([AVal.ptr cid 0].flatMap idsOf)).siz, next := m.next + n }) = some (.int .i64 x, m') ∧ SL eInt d' r ∧ m.next ≤ m'.next ∧ m'.mode = m.mode ∧ (∀ id, id < m.next → m'.siz id = m.siz id) ∧
      (∀ id o, id < m.next → ¬ (id = cid ∧ o = 5) → m'.cell id o = m.cell id o) ∧ m'.cell cid 5 = some d' := by
      intro n
      refine ⟨dd, _, rfl, hdd ▸ h2, by simp [unrestrict], ?_, ?_, ?_, by simp [unrestrict, shown, idsOf]⟩
      · funext id
        by_cases h1 : id = 0 ∨ id = cid
        · have h2 : ¬ (id < m.next ∧ ¬ id = 0 ∧ ¬ id = cid) := by omega
          simp [restrict, unrestrict, shown, idsOf, h2, h1]
        · by_cases h2 : id < m.next
          · simp [restrict, unrestrict, shown, idsOf, h2, show ¬ id = 0 by omega, show ¬ id = cid by omega]
          · simp [restrict, unrestrict, shown, idsOf, h2, h1]
            exact (hc.fresh id (by omega)).symm
      · intro id h1
        by_cases h2 : id = 0 ∨ id = cid
        · simp [restrict, unrestrict, shown, idsOf, h1, h2]
        · simp [restrict, unrestrict, shown, idsOf, h1, show ¬ id = 0 by omega, show ¬ id = cid by omega]
      · intro id o h1 h3
        by_cases h2 : id = 0 ∨ id = cid
        · have h4 : ¬ (id = cid ∧ 5 ≤ o ∧ o < 6) := by omega
          simp [restrict, unrestrict, shown, idsOf, h1, h2, h4]
        · simp [restrict, unrestrict, shown, idsOf, h1, show ¬ id = 0 by omega, show ¬ id = cid by omega]
    rcases hshape with rfl | rfl | ⟨n, cs, rfl⟩
    · simp [codeOf, Tryd.f44, restrict, unrestrict, shown, idsOf, hm, c5, hla, hix, hz, h1, eInt, ld3]
      simpa [restrict, unrestrict, shown, idsOf] using key 25
    · simp [codeOf, Tryd.f44, restrict, unrestrict, shown, idsOf, hm, c5, hla, hix, hz, h1, eInt, ld3]
      simpa [restrict, unrestrict, shown, idsOf] using key 25
    · simp [codeOf, Tryd.f44, restrict, unrestrict, shown, idsOf, hm, c5, hla, hix, hz, h1, eInt, ld3]
      simpa [restrict, unrestrict, shown, idsOf] using key 25
end Go.Proofs.YtmfdjipijifabaaDoor
end
section
/- The contest: the end of a slot. -/
set_option linter.unusedVariables false
set_option linter.unusedSimpArgs false
set_option linter.unnecessarySimpa false
set_option maxRecDepth 100000
namespace Go.Proofs.YtmfdjipijifabaaDoor
open Go.Ab

theorem inf44 : ∃ i, Tryd.prog.info? 44 = some i ∧ i.size = 5 ∧ i.bytes ≤ 100000 := by
  obtain ⟨i, h1, h2, h3⟩ := inf_of (P := Tryd.prog) (t := 44) (a := 5) (b := 32) (by kernel_rfl)
  exact ⟨i, h1, h2, by omega⟩

section
variable {t : Int} {x : Con3}
theorem finOne_len (i : Nat) : (finOne t i x).l.length = x.l.length := by
  unfold finOne
  split
  · split
    · simp
    · rfl
  · rfl
theorem finC_len (c : Nat) : (finC t x c).l.length = x.l.length := by
  induction c with
  | zero => rfl
  | succ c ih => simp only [finC]; rw [finOne_len]; exact ih
theorem finC_ge (c i : Nat) (h : c ≤ i) : (finC t x c).l[i]? = x.l[i]? := by
  induction c with
  | zero => rfl
  | succ c ih =>
    simp only [finC]
    rw [← ih (by omega)]
    generalize finC t x c = y
    unfold finOne
    split
    · split
      · rw [List.getElem?_set_ne (by omega)]
      · rfl
    · rfl
theorem finC_d (c : Nat) : ∀ d ∈ (finC t x c).d, d ∈ x.d := by
  induction c with
  | zero => intro d h; exact h
  | succ c ih =>
    intro d h
    simp only [finC] at h
    apply ih
    generalize finC t x c = y at h ⊢
    unfold finOne at h
    split at h
    · split at h
      · exact List.mem_of_mem_tail h
      · exact h
    · exact h
theorem finC_out (c : Nat) : (finC t x c).out.length ≤ x.out.length + c := by
  induction c with
  | zero => exact Nat.le_refl _
  | succ c ih =>
    simp only [finC]
    generalize finC t x c = y at ih ⊢
    unfold finOne
    split
    · split
      · simp; omega
      · omega
    · omega
end

/-- The memory of a contest that goes on. -/
structure Cst (cid aid lo : Nat) (h : List (List Bool)) (ask : Bool) (x : Con3) (d out : AVal) (m : Mem) : Prop where
  cm : CM cid aid h ask x.l d out m
  d : SL eInt d x.d
  out : App eBur 5 out x.out lo m
  lo : cid < lo ∧ aid < lo ∧ lo ≤ m.next

theorem CM.to {cid aid : Nat} {h : List (List Bool)} {ask : Bool} {l : List Sta} {d out d' out' : AVal} {m m' : Mem} (hc : CM cid aid h ask l d out m) {i : Nat} (hi : i < l.length) (s' : Sta)
    (hn : m.next ≤ m'.next) (q1 : m'.mode cid = .rw) (q2 : ∀ o, o = 1 ∨ o = 2 ∨ o = 4 → m'.cell cid o = m.cell cid o) (q3 : m'.cell cid 5 = some d') (q4 : m'.cell cid 6 = some out') (q5 : m'.mode aid = .rw) (q6 : m'.siz aid = m.siz aid)
    (q7 : ∀ o, ¬ (i * 12 ≤ o ∧ o < i * 12 + 12) → m'.cell aid o = m.cell aid o) (q8 : ∀ o, o < 12 → m'.cell aid (i * 12 + o) = (eSta s')[o]?) (q9 : Fresh m') : CM cid aid h ask (l.set i s') d' out' m' := by
  refine ⟨Nat.lt_of_lt_of_le hc.lt hn, q1, by rw [q2 _ (by omega)]; exact hc.c1, by rw [q2 _ (by omega)]; exact hc.c2, by rw [q2 _ (by omega), List.length_set]; exact hc.c4, q3, q4,
    ⟨Nat.lt_of_lt_of_le hc.st.lt hn, q5, by rw [q6, List.length_set]; exact hc.st.siz, fun j hj o ho => ?_⟩, hc.ne, q9⟩
  rw [List.length_set] at hj
  by_cases hij : i = j
  · subst hij
    rw [List.getElem_set_self]
    exact q8 o ho
  · rw [List.getElem_set_ne hij, q7 (j * 12 + o) (by
      rintro ⟨h1, h2⟩
      have : j = i := by omega
      exact hij this.symm)]
    exact hc.st.cell j hj o ho

theorem c23 (cid aid lo : Nat) (h0a : 0 < aid) (h : List (List Bool)) (ask : Bool) (x0 : Con3) (d out : AVal) (t : Int) (hl : x0.l.length < 2 ^ 16) (ho : x0.out.length < 2 ^ 16)
    (ht : 0 ≤ t ∧ t ≤ 10000) (hok : ∀ s ∈ x0.l, s.c.b.ok ∧ (s.fin = t + 1 → s.c.b.cnt = 0) ∧ -100000 ≤ s.c.frames ∧ s.c.frames ≤ 100000) (hd : ∀ d ∈ x0.d, 0 ≤ d ∧ d ≤ 1099511627776)
    (k : Nat) (hk : x0.l.length + 10 ≤ k) (m : Mem) (hc : Cst cid aid lo h ask x0 d out m) :
    ∃ m', cCall C T k 23 [.ptr cid 0, .int .i64 t] m = some (.tup [], m') ∧ ∃ d' out', Cst cid aid lo h ask (finC t x0 x0.l.length) d' out' m' := by
  obtain ⟨k, rfl⟩ : ∃ j, k = j + 1 := ⟨k - 1, by omega⟩
  simp only [cCall, kd23]
  rw [body23]
  have hm := hc.cm.rw
  have c4 := hc.cm.c4
  have hne := hc.cm.ne
  have hne' : ¬ aid = cid := fun e => hne e.symm
  have own70 : ∀ q : Nat, q < x0.l.length → indexAddrA Tryd.prog 70 (.own aid 0 x0.l.length 12) (.int .i64 q) = some (.ptr aid (q * 12)) := fun q hq => by simp [indexAddrA, hq]
  have hl70 : lenA Tryd.prog 70 (.own aid 0 x0.l.length 12) = some (.int .i64 x0.l.length) := by simp [lenA]
  have hww : ∀ c : Nat, c < x0.l.length → IntKind.i64.wrap ((c : Int) + 1) = ((c + 1 : Nat) : Int) := fun c hc => IntWalk.i64_in _ (by omega)
  have wt : IntKind.i64.wrap (t + 1) = t + 1 := IntWalk.i64_in _ (by omega)
  simp [codeOf, Tryd.f23, hm, c4, hl70]
  generalize hl' : cCode C _ _ _ (.loop _) _ = r
  obtain ⟨e, s', rfl, he, hp⟩ := loop_rule hl' (fun q s => s.env 0 = .ptr cid 0 ∧ s.env 1 = .int .i64 t ∧ s.env 12 = .int .i64 x0.l.length ∧
      ∃ c, c + q = x0.l.length ∧ s.env 13 = .int .i64 (c : Nat) ∧ ∃ d out, Cst cid aid lo h ask (finC t x0 c) d out s.mem)
    (fun e s => e = .exit 0 ∧ ∃ d out, Cst cid aid lo h ask (finC t x0 x0.l.length) d out s.mem) x0.l.length (by omega) (by
      refine ⟨by simp, by simp, by simp, 0, by simp, by simp, d, out, hc.cm.bump _, hc.d, hc.out.grow (Grow.bump _ _), hc.lo.1, hc.lo.2.1, by have := hc.lo.2.2; simp; omega⟩) (by
      rintro q s ⟨e0, e1, e12, c, hcq, e13, d, out, H⟩
      by_cases hcl : c < x0.l.length
      · have hcs := H.cm
        have hlen := finC_len (t := t) (x := x0) c
        have hcl' : c < (finC t x0 c).l.length := by omega
        have hm2 := hcs.rw
        have ma := hcs.st.rw
        have d4 := hcs.c4
        rw [hlen] at d4
        have d6 := hcs.c6
        have hsc : (finC t x0 c).l[c] = x0.l[c] := by
          have := finC_ge (t := t) (x := x0) c c (Nat.le_refl _)
          rw [List.getElem?_eq_getElem hcl', List.getElem?_eq_getElem hcl] at this
          exact Option.some.inj this
        have hoc := hok x0.l[c] (List.getElem_mem hcl)
        have hstep : finC t x0 (c + 1) = finOne t c (finC t x0 c) := rfl
        unfold finOne at hstep
        rw [List.getElem?_eq_getElem hcl', hsc] at hstep
        simp only [] at hstep
        have hds : ∀ d ∈ (finC t x0 c).d, 0 ≤ d ∧ d ≤ 1099511627776 := fun d hd' => hd d (finC_d c d hd')
        have hol := finC_out (t := t) (x := x0) c
        generalize finC t x0 c = y at *
        generalize hs0 : x0.l[c] = s0 at *
        have old : ∀ o, o < 12 → s.mem.cell aid (c * 12 + o) = (eSta s0)[o]? := fun o ho => by
          have := hcs.st.cell c hcl' o ho
          rw [hsc] at this
          exact this
        have f0 : s.mem.cell aid (c * 12) = some (.int .u8 s0.c.b.cat) := old 0 (by omega)
        have f1 : s.mem.cell aid (c * 12 + 1) = some (.int .i64 (aft s0.c.b.cat s0.c.b.t)) := old 1 (by omega)
        have f2 : s.mem.cell aid (c * 12 + 2) = some (.int .i64 s0.c.b.cnt) := old 2 (by omega)
        have f3 : s.mem.cell aid (c * 12 + 3) = some (.int .i64 s0.c.b.t) := old 3 (by omega)
        have f4 : s.mem.cell aid (c * 12 + 4) = some (.int .i64 s0.c.frames) := old 4 (by omega)
        have f7 : s.mem.cell aid (c * 12 + 7) = some (.int .i64 s0.start) := old 7 (by omega)
        have f8 : s.mem.cell aid (c * 12 + 8) = some (.int .i64 s0.fin) := old 8 (by omega)
        have f9 : s.mem.cell aid (c * 12 + 9) = some (.bool s0.asked) := old 9 (by omega)
        have f10 : s.mem.cell aid (c * 12 + 10) = some (.bool s0.spoiled) := old 10 (by omega)
        by_cases hf : s0.fin = t + 1
        · rw [if_pos hf] at hstep
          rw [hf] at f8
          obtain ⟨dd, h44⟩ := Classical.axiomOfChoice fun n : Nat => c44 cid aid h ask y.l d out y.d H.d k (by omega) _ (hcs.bump n)
          obtain ⟨mm, h44⟩ := Classical.axiomOfChoice h44
          have g1 := fun n => (h44 n).1
          have g2 := fun n => (h44 n).2.1
          have g3 : ∀ n, s.mem.next + n ≤ (mm n).next := fun n => (h44 n).2.2.1
          have g4 : ∀ n, (mm n).mode = s.mem.mode := fun n => (h44 n).2.2.2.1
          have g5 : ∀ n id, id < s.mem.next → (mm n).siz id = s.mem.siz id := fun n id hid => (h44 n).2.2.2.2.1 id (Nat.lt_of_lt_of_le hid (Nat.le_add_right _ _))
          have g6 : ∀ n id o, id < s.mem.next → ¬ (id = cid ∧ o = 5) → (mm n).cell id o = s.mem.cell id o := fun n id o hid hno => (h44 n).2.2.2.2.2.1 id o (Nat.lt_of_lt_of_le hid (Nat.le_add_right _ _)) hno
          have g7 : ∀ n, (mm n).cell cid 5 = some (dd n) := fun n => (h44 n).2.2.2.2.2.2
          have la := hcs.st.lt
          have ga : ∀ n o, (mm n).cell aid o = s.mem.cell aid o := fun n o => g6 n aid o la (fun e => hne' e.1)
          have gc : ∀ n, (mm n).cell cid 4 = s.mem.cell cid 4 := fun n => g6 n cid 4 hcs.lt (by omega)
          have gd : ∀ n, (mm n).cell cid 6 = s.mem.cell cid 6 := fun n => g6 n cid 6 hcs.lt (by omega)
          have hd0 : 0 ≤ y.d.headD 0 ∧ y.d.headD 0 ≤ 1099511627776 := by
            cases hy : y.d with
            | nil => simp
            | cons a b => rw [hy] at hds; exact hds a (by simp)
          generalize hdv : y.d.headD 0 = dv at *
          have hsh : shown 1 (idsOf (.ptr cid 0)) aid = false := by simp [shown, idsOf, hne']; omega
          have hlta : ∀ n, aid < s.mem.next + n := fun n => by omega
          have hcx : ∀ j n, ¬ cid = (mm j).next + n := fun j n => by have := g3 j; have := hcs.lt; omega
          have hax : ∀ j n, ¬ aid = (mm j).next + n := fun j n => by have := g3 j; omega
          have gfr : ∀ j n, s.mem.mode ((mm j).next + n) = .dead := fun j n => hcs.fresh _ (by have := g3 j; omega)
          have hcnt := hoc.2.1 hf
          rw [hcnt] at f2
          have g41 := fun bad => c41_done k (by omega) s0.c.b hoc.1 hcnt bad _ hd0.1 hd0.2
          have wf : IntKind.i64.wrap (s0.c.frames - 1) = s0.c.frames - 1 := IntWalk.i64_in _ (by omega)
          simp only [Bk.enc, hcnt] at g41
          have hfin : finS s0 dv = { s0 with c := { s0.c with b := (s0.c.b.done s0.spoiled dv).1, frames := if (s0.c.b.done s0.spoiled dv).2 || !s0.spoiled then s0.c.frames - 1 else s0.c.frames }, fin := 0 } := rfl
          have hbur : burOf c s0 = ⟨c, s0.start, s0.fin, s0.asked, !s0.spoiled⟩ := rfl
          cases hsp : s0.spoiled with
          | false =>
            rw [hsp] at f10 hfin hbur
            have g41 := g41 false
            simp only [Bool.false_eq_true, if_false] at g41
            obtain ⟨b', dr, hbd⟩ : ∃ b' dr, s0.c.b.done false dv = (b', dr) := ⟨_, _, rfl⟩
            have hdr : dr = false := by
              simp [Bk.done] at hbd
              exact hbd.2.symm ▸ rfl
            subst hdr
            rw [hbd] at g41 hfin
            simp only [] at g41 hfin
            simp [e0, e1, e12, e13, hcl, hm2, d4, own70 c hcl, ma, f8, wt, f10, f0, f1, f2, f3, f4, f7, f9, g1, g4, ga, gc, gd, g41, hne, hne', d6, wf, hsh, hlta, hcx, hax, gfr, buildSliceA, zeros, List.range, List.range.loop]
            generalize hM2 : Mem.mk _ _ _ _ = M2
            have gJ := g3 42
            have n2 : M2.next = (mm 42).next + 47 := by rw [← hM2]
            have mo2 : ∀ id, id ≠ (mm 42).next + 42 → M2.mode id = s.mem.mode id := fun id h => by
              rw [← hM2]
              exact if_neg h
            have si2 : ∀ id, id < s.mem.next → M2.siz id = s.mem.siz id := fun id h => by
              rw [← hM2]
              have h1 : ¬ id = (mm 42).next + 42 := by omega
              show upd (mm 42).siz ((mm 42).next + 42) 5 id = _
              rw [upd, if_neg h1]
              exact g5 42 id h
            have ce2 : ∀ id o, id < s.mem.next → id ≠ aid → M2.cell id o = (mm 42).cell id o := fun id o h h' => by
              rw [← hM2]
              have h1 : ¬ id = (mm 42).next + 42 := by omega
              simp [h1, h']
            have hout : App eBur 5 out y.out lo M2 := H.out.same (by omega) fun id n e hid hlo => by
              have hlo' := H.lo
              refine ⟨?_, mo2 id (by omega), si2 id hid⟩
              funext o
              rw [ce2 id o hid (by omega), g6 42 id o hid (by omega)]
            obtain ⟨inf, i1, i2, i3⟩ := inf44
            obtain ⟨m3, a1, a2, a3, a4, a5⟩ := App.more (P := Tryd.prog) (t := 40) eBur_len Tryd.underlying40 i1 i2 i3 zc44 rfl (by omega) hout (xid := (mm 42).next + 42) (new := (mm 42).next + 43) (v := burOf c s0)
              (by rw [← hM2]; simp) (fun o ho => by
                have h5 : o = 0 ∨ o = 1 ∨ o = 2 ∨ o = 3 ∨ o = 4 := by omega
                rw [← hM2]
                rcases h5 with rfl | rfl | rfl | rfl | rfl <;> simp [eBur, hbur, hf]) (by have := H.lo.2.2; omega) (by rw [mo2 _ (by omega)]; exact gfr 42 43) (by omega) (by omega)
            have low : ∀ id, id = cid ∨ id = aid → m3.cell id = M2.cell id ∧ m3.mode id = M2.mode id ∧ m3.siz id = M2.siz id := fun id e => a4 id (by have := hcs.lt; omega) (fun n e' => by
              have hlo' := H.lo
              rcases H.out with ⟨_, q1⟩ | ⟨id', q1, q2, _⟩
              · rw [q1] at e'; cases e'
              · rw [q1] at e'; cases e'; omega)
            obtain ⟨lc1, lc2, lc3⟩ := low cid (.inl rfl)
            obtain ⟨la1, la2, la3⟩ := low aid (.inr rfl)
            have hcl2 := hcs.lt
            have k1 : m3.mode cid = .rw := by rw [lc2, mo2 cid (by omega)]; exact hm2
            have kc : ∀ o, o ≠ 5 → m3.cell cid o = s.mem.cell cid o := fun o h => by rw [lc1, ce2 cid o hcl2 hne, g6 42 cid o hcl2 (by omega)]
            have k2 : m3.cell cid 6 = some out := by rw [kc 6 (by omega)]; exact d6
            have k5 : m3.cell cid 5 = some (dd 42) := by rw [lc1, ce2 cid 5 hcl2 hne]; exact g7 42
            have k3 : m3.mode aid = .rw := by rw [la2, mo2 aid (by omega)]; exact ma
            have ka : ∀ o, ¬ (c * 12 ≤ o ∧ o < c * 12 + 5) → m3.cell aid o = s.mem.cell aid o := fun o h => by
              rw [la1, ← hM2]
              have h1 : ¬ aid = (mm 42).next + 42 := by omega
              have h2 : ¬ (c * 12 + 4 ≤ o ∧ o < c * 12 + 5) := by omega
              have h3 : ¬ (c * 12 ≤ o ∧ o < c * 12 + 4) := by omega
              simp [h1, h2, h3, ga]
            have k8 : m3.cell aid (c * 12 + 8) = some (.int .i64 (t + 1)) := by rw [ka _ (by omega)]; exact f8
            have hb : ∀ o, o < 12 → o ≠ 8 → m3.cell aid (c * 12 + o) = (eSta (finS s0 dv))[o]? := fun o ho ho8 => by
              have hold := old o ho
              by_cases h5 : o < 5
              · rw [la1, ← hM2]
                have h1 : ¬ aid = (mm 42).next + 42 := by omega
                have z4 : ¬ c * 12 + 4 ≤ c * 12 := by omega
                have h6 : o = 0 ∨ o = 1 ∨ o = 2 ∨ o = 3 ∨ o = 4 := by omega
                rcases h6 with rfl | rfl | rfl | rfl | rfl <;> simp [h1, z4, hfin, eSta, eCon, Bk.enc, ga]
              · rw [ka _ (by omega), hold, hfin]
                rcases lt12 ho with rfl | rfl | rfl | rfl | rfl | rfl | rfl | rfl | rfl | rfl | rfl | rfl <;> first | omega | rfl | simp [eSta, eCon, Bk.enc, hsp]
            have wc := hww c hcl
            simp [a1, e0, e1, e12, e13, k1, k2, k3, k8, hne, hne', wc]
            refine ⟨_, _, ⟨rfl, rfl⟩, ?_⟩
            simp [e0, e1, e12]
            generalize hM4 : Mem.mk _ _ _ _ = M4
            refine ⟨by omega, c + 1, by omega, by simp, dd 42, .own ((mm 42).next + 43) 0 (y.out.length + 1) 5, ?_⟩
            rw [hstep]
            refine ⟨hcs.to hcl' _ ?_ ?_ ?_ ?_ ?_ ?_ ?_ ?_ ?_ ?_, g2 42, a2.same ?_ ?_, H.lo.1, H.lo.2.1, ?_⟩
            · rw [← hM4]; show s.mem.next ≤ m3.next + _; omega
            · rw [← hM4]; exact k1
            · intro o ho
              rw [← hM4, ← kc o (by omega)]
              have h1 : ¬ (6 ≤ o ∧ o < 7) := by omega
              simp [hne, h1]
            · rw [← hM4, ← k5]
              simp [hne]
            · rw [← hM4]
              simp [hne]
            · rw [← hM4]; exact k3
            · rw [← hM4]
              show m3.siz aid = _
              rw [la3, si2 aid la]
            · intro o ho
              rw [← hM4, ← ka o (by omega)]
              have h1 : ¬ (c * 12 + 8 ≤ o ∧ o < c * 12 + 9) := by omega
              simp [hne', h1]
            · intro o ho
              by_cases h8 : o = 8
              · subst h8
                rw [← hM4, hfin]
                simp [eSta, eCon, Bk.enc]
              · have h1 : ¬ (c * 12 + 8 ≤ c * 12 + o ∧ c * 12 + o < c * 12 + 9) := by omega
                rw [← hb o ho h8, ← hM4]
                simp only []
                rw [if_neg (by omega), if_neg (by omega)]
            · intro id hid
              rw [← hM4] at hid ⊢
              have hid' : m3.next ≤ id := Nat.le_trans (Nat.le_add_right _ _) hid
              refine a5 id (by omega) ?_
              rw [mo2 id (by omega)]
              exact hcs.fresh id (by omega)
            · rw [← hM4]; exact Nat.le_add_right _ _
            · intro id n e hid hlo
              have hlo' := H.lo
              rw [← hM4]
              refine ⟨?_, rfl, rfl⟩
              funext o
              simp only []
              rw [if_neg (by omega), if_neg (by omega)]
            · have := H.lo.2.2
              rw [← hM4]; show lo ≤ m3.next + _; omega
          | true =>
            rw [hsp] at f10 hfin hbur
            have g41 := g41 true
            simp only [if_true] at g41
            obtain ⟨b', dr, hbd⟩ : ∃ b' dr, s0.c.b.done true dv = (b', dr) := ⟨_, _, rfl⟩
            rw [hbd] at g41 hfin
            simp only [] at g41 hfin
            cases dr with
            | true =>
              simp [e0, e1, e12, e13, hcl, hm2, d4, own70 c hcl, ma, f8, wt, f10, f0, f1, f2, f3, f4, f7, f9, g1, g4, ga, gc, gd, g41, hne, hne', d6, wf, hsh, hlta, hcx, hax, gfr, buildSliceA, zeros, List.range, List.range.loop]
              generalize hM2 : Mem.mk _ _ _ _ = M2
              have gJ := g3 43
              have n2 : M2.next = (mm 43).next + 47 := by rw [← hM2]
              have mo2 : ∀ id, id ≠ (mm 43).next + 42 → M2.mode id = s.mem.mode id := fun id h => by
                rw [← hM2]
                exact if_neg h
              have si2 : ∀ id, id < s.mem.next → M2.siz id = s.mem.siz id := fun id h => by
                rw [← hM2]
                have h1 : ¬ id = (mm 43).next + 42 := by omega
                show upd (mm 43).siz ((mm 43).next + 42) 5 id = _
                rw [upd, if_neg h1]
                exact g5 43 id h
              have ce2 : ∀ id o, id < s.mem.next → id ≠ aid → M2.cell id o = (mm 43).cell id o := fun id o h h' => by
                rw [← hM2]
                have h1 : ¬ id = (mm 43).next + 42 := by omega
                simp [h1, h']
              have hout : App eBur 5 out y.out lo M2 := H.out.same (by omega) fun id n e hid hlo => by
                have hlo' := H.lo
                refine ⟨?_, mo2 id (by omega), si2 id hid⟩
                funext o
                rw [ce2 id o hid (by omega), g6 43 id o hid (by omega)]
              obtain ⟨inf, i1, i2, i3⟩ := inf44
              obtain ⟨m3, a1, a2, a3, a4, a5⟩ := App.more (P := Tryd.prog) (t := 40) eBur_len Tryd.underlying40 i1 i2 i3 zc44 rfl (by omega) hout (xid := (mm 43).next + 42) (new := (mm 43).next + 43) (v := burOf c s0)
                (by rw [← hM2]; simp) (fun o ho => by
                  have h5 : o = 0 ∨ o = 1 ∨ o = 2 ∨ o = 3 ∨ o = 4 := by omega
                  rw [← hM2]
                  rcases h5 with rfl | rfl | rfl | rfl | rfl <;> simp [eBur, hbur, hf]) (by have := H.lo.2.2; omega) (by rw [mo2 _ (by omega)]; exact gfr 43 43) (by omega) (by omega)
              have low : ∀ id, id = cid ∨ id = aid → m3.cell id = M2.cell id ∧ m3.mode id = M2.mode id ∧ m3.siz id = M2.siz id := fun id e => a4 id (by have := hcs.lt; omega) (fun n e' => by
                have hlo' := H.lo
                rcases H.out with ⟨_, q1⟩ | ⟨id', q1, q2, _⟩
                · rw [q1] at e'; cases e'
                · rw [q1] at e'; cases e'; omega)
              obtain ⟨lc1, lc2, lc3⟩ := low cid (.inl rfl)
              obtain ⟨la1, la2, la3⟩ := low aid (.inr rfl)
              have hcl2 := hcs.lt
              have k1 : m3.mode cid = .rw := by rw [lc2, mo2 cid (by omega)]; exact hm2
              have kc : ∀ o, o ≠ 5 → m3.cell cid o = s.mem.cell cid o := fun o h => by rw [lc1, ce2 cid o hcl2 hne, g6 43 cid o hcl2 (by omega)]
              have k2 : m3.cell cid 6 = some out := by rw [kc 6 (by omega)]; exact d6
              have k5 : m3.cell cid 5 = some (dd 43) := by rw [lc1, ce2 cid 5 hcl2 hne]; exact g7 43
              have k3 : m3.mode aid = .rw := by rw [la2, mo2 aid (by omega)]; exact ma
              have ka : ∀ o, ¬ (c * 12 ≤ o ∧ o < c * 12 + 5) → m3.cell aid o = s.mem.cell aid o := fun o h => by
                rw [la1, ← hM2]
                have h1 : ¬ aid = (mm 43).next + 42 := by omega
                have h2 : ¬ (c * 12 + 4 ≤ o ∧ o < c * 12 + 5) := by omega
                have h3 : ¬ (c * 12 ≤ o ∧ o < c * 12 + 4) := by omega
                simp [h1, h2, h3, ga]
              have k8 : m3.cell aid (c * 12 + 8) = some (.int .i64 (t + 1)) := by rw [ka _ (by omega)]; exact f8
              have hb : ∀ o, o < 12 → o ≠ 8 → m3.cell aid (c * 12 + o) = (eSta (finS s0 dv))[o]? := fun o ho ho8 => by
                have hold := old o ho
                by_cases h5 : o < 5
                · rw [la1, ← hM2]
                  have h1 : ¬ aid = (mm 43).next + 42 := by omega
                  have z4 : ¬ c * 12 + 4 ≤ c * 12 := by omega
                  have h6 : o = 0 ∨ o = 1 ∨ o = 2 ∨ o = 3 ∨ o = 4 := by omega
                  rcases h6 with rfl | rfl | rfl | rfl | rfl <;> simp [h1, z4, hfin, eSta, eCon, Bk.enc, ga]
                · rw [ka _ (by omega), hold, hfin]
                  rcases lt12 ho with rfl | rfl | rfl | rfl | rfl | rfl | rfl | rfl | rfl | rfl | rfl | rfl <;> first | omega | rfl | simp [eSta, eCon, Bk.enc, hsp]
              have wc := hww c hcl
              simp [a1, e0, e1, e12, e13, k1, k2, k3, k8, hne, hne', wc]
              refine ⟨_, _, ⟨rfl, rfl⟩, ?_⟩
              simp [e0, e1, e12]
              generalize hM4 : Mem.mk _ _ _ _ = M4
              refine ⟨by omega, c + 1, by omega, by simp, dd 43, .own ((mm 43).next + 43) 0 (y.out.length + 1) 5, ?_⟩
              rw [hstep]
              refine ⟨hcs.to hcl' _ ?_ ?_ ?_ ?_ ?_ ?_ ?_ ?_ ?_ ?_, g2 43, a2.same ?_ ?_, H.lo.1, H.lo.2.1, ?_⟩
              · rw [← hM4]; show s.mem.next ≤ m3.next + _; omega
              · rw [← hM4]; exact k1
              · intro o ho
                rw [← hM4, ← kc o (by omega)]
                have h1 : ¬ (6 ≤ o ∧ o < 7) := by omega
                simp [hne, h1]
              · rw [← hM4, ← k5]
                simp [hne]
              · rw [← hM4]
                simp [hne]
              · rw [← hM4]; exact k3
              · rw [← hM4]
                show m3.siz aid = _
                rw [la3, si2 aid la]
              · intro o ho
                rw [← hM4, ← ka o (by omega)]
                have h1 : ¬ (c * 12 + 8 ≤ o ∧ o < c * 12 + 9) := by omega
                simp [hne', h1]
              · intro o ho
                by_cases h8 : o = 8
                · subst h8
                  rw [← hM4, hfin]
                  simp [eSta, eCon, Bk.enc]
                · have h1 : ¬ (c * 12 + 8 ≤ c * 12 + o ∧ c * 12 + o < c * 12 + 9) := by omega
                  rw [← hb o ho h8, ← hM4]
                  simp only []
                  rw [if_neg (by omega), if_neg (by omega)]
              · intro id hid
                rw [← hM4] at hid ⊢
                have hid' : m3.next ≤ id := Nat.le_trans (Nat.le_add_right _ _) hid
                refine a5 id (by omega) ?_
                rw [mo2 id (by omega)]
                exact hcs.fresh id (by omega)
              · rw [← hM4]; exact Nat.le_add_right _ _
              · intro id n e hid hlo
                have hlo' := H.lo
                rw [← hM4]
                refine ⟨?_, rfl, rfl⟩
                funext o
                simp only []
                rw [if_neg (by omega), if_neg (by omega)]
              · have := H.lo.2.2
                rw [← hM4]; show lo ≤ m3.next + _; omega
            | false =>
              simp [e0, e1, e12, e13, hcl, hm2, d4, own70 c hcl, ma, f8, wt, f10, f0, f1, f2, f3, f4, f7, f9, g1, g4, ga, gc, gd, g41, hne, hne', d6, wf, hsh, hlta, hcx, hax, gfr, buildSliceA, zeros, List.range, List.range.loop]
              generalize hM2 : Mem.mk _ _ _ _ = M2
              have gJ := g3 43
              have n2 : M2.next = (mm 43).next + 37 := by rw [← hM2]
              have mo2 : ∀ id, id ≠ (mm 43).next + 32 → M2.mode id = s.mem.mode id := fun id h => by
                rw [← hM2]
                exact if_neg h
              have si2 : ∀ id, id < s.mem.next → M2.siz id = s.mem.siz id := fun id h => by
                rw [← hM2]
                have h1 : ¬ id = (mm 43).next + 32 := by omega
                show upd (mm 43).siz ((mm 43).next + 32) 5 id = _
                rw [upd, if_neg h1]
                exact g5 43 id h
              have ce2 : ∀ id o, id < s.mem.next → id ≠ aid → M2.cell id o = (mm 43).cell id o := fun id o h h' => by
                rw [← hM2]
                have h1 : ¬ id = (mm 43).next + 32 := by omega
                simp [h1, h']
              have hout : App eBur 5 out y.out lo M2 := H.out.same (by omega) fun id n e hid hlo => by
                have hlo' := H.lo
                refine ⟨?_, mo2 id (by omega), si2 id hid⟩
                funext o
                rw [ce2 id o hid (by omega), g6 43 id o hid (by omega)]
              obtain ⟨inf, i1, i2, i3⟩ := inf44
              obtain ⟨m3, a1, a2, a3, a4, a5⟩ := App.more (P := Tryd.prog) (t := 40) eBur_len Tryd.underlying40 i1 i2 i3 zc44 rfl (by omega) hout (xid := (mm 43).next + 32) (new := (mm 43).next + 33) (v := burOf c s0)
                (by rw [← hM2]; simp) (fun o ho => by
                  have h5 : o = 0 ∨ o = 1 ∨ o = 2 ∨ o = 3 ∨ o = 4 := by omega
                  rw [← hM2]
                  rcases h5 with rfl | rfl | rfl | rfl | rfl <;> simp [eBur, hbur, hf]) (by have := H.lo.2.2; omega) (by rw [mo2 _ (by omega)]; exact gfr 43 33) (by omega) (by omega)
              have low : ∀ id, id = cid ∨ id = aid → m3.cell id = M2.cell id ∧ m3.mode id = M2.mode id ∧ m3.siz id = M2.siz id := fun id e => a4 id (by have := hcs.lt; omega) (fun n e' => by
                have hlo' := H.lo
                rcases H.out with ⟨_, q1⟩ | ⟨id', q1, q2, _⟩
                · rw [q1] at e'; cases e'
                · rw [q1] at e'; cases e'; omega)
              obtain ⟨lc1, lc2, lc3⟩ := low cid (.inl rfl)
              obtain ⟨la1, la2, la3⟩ := low aid (.inr rfl)
              have hcl2 := hcs.lt
              have k1 : m3.mode cid = .rw := by rw [lc2, mo2 cid (by omega)]; exact hm2
              have kc : ∀ o, o ≠ 5 → m3.cell cid o = s.mem.cell cid o := fun o h => by rw [lc1, ce2 cid o hcl2 hne, g6 43 cid o hcl2 (by omega)]
              have k2 : m3.cell cid 6 = some out := by rw [kc 6 (by omega)]; exact d6
              have k5 : m3.cell cid 5 = some (dd 43) := by rw [lc1, ce2 cid 5 hcl2 hne]; exact g7 43
              have k3 : m3.mode aid = .rw := by rw [la2, mo2 aid (by omega)]; exact ma
              have ka : ∀ o, ¬ (c * 12 ≤ o ∧ o < c * 12 + 5) → m3.cell aid o = s.mem.cell aid o := fun o h => by
                rw [la1, ← hM2]
                have h1 : ¬ aid = (mm 43).next + 32 := by omega
                have h2 : ¬ (c * 12 + 4 ≤ o ∧ o < c * 12 + 5) := by omega
                have h3 : ¬ (c * 12 ≤ o ∧ o < c * 12 + 4) := by omega
                simp [h1, h2, h3, ga]
              have k8 : m3.cell aid (c * 12 + 8) = some (.int .i64 (t + 1)) := by rw [ka _ (by omega)]; exact f8
              have hb : ∀ o, o < 12 → o ≠ 8 → m3.cell aid (c * 12 + o) = (eSta (finS s0 dv))[o]? := fun o ho ho8 => by
                have hold := old o ho
                by_cases h5 : o < 5
                · rw [la1, ← hM2]
                  have h1 : ¬ aid = (mm 43).next + 32 := by omega
                  have z4 : ¬ c * 12 + 4 ≤ c * 12 := by omega
                  have h6 : o = 0 ∨ o = 1 ∨ o = 2 ∨ o = 3 ∨ o = 4 := by omega
                  rcases h6 with rfl | rfl | rfl | rfl | rfl <;> simp [h1, z4, hfin, eSta, eCon, Bk.enc, ga, f4]
                · rw [ka _ (by omega), hold, hfin]
                  rcases lt12 ho with rfl | rfl | rfl | rfl | rfl | rfl | rfl | rfl | rfl | rfl | rfl | rfl <;> first | omega | rfl | simp [eSta, eCon, Bk.enc, hsp]
              have wc := hww c hcl
              simp [a1, e0, e1, e12, e13, k1, k2, k3, k8, hne, hne', wc]
              refine ⟨_, _, ⟨rfl, rfl⟩, ?_⟩
              simp [e0, e1, e12]
              generalize hM4 : Mem.mk _ _ _ _ = M4
              refine ⟨by omega, c + 1, by omega, by simp, dd 43, .own ((mm 43).next + 33) 0 (y.out.length + 1) 5, ?_⟩
              rw [hstep]
              refine ⟨hcs.to hcl' _ ?_ ?_ ?_ ?_ ?_ ?_ ?_ ?_ ?_ ?_, g2 43, a2.same ?_ ?_, H.lo.1, H.lo.2.1, ?_⟩
              · rw [← hM4]; show s.mem.next ≤ m3.next + _; omega
              · rw [← hM4]; exact k1
              · intro o ho
                rw [← hM4, ← kc o (by omega)]
                have h1 : ¬ (6 ≤ o ∧ o < 7) := by omega
                simp [hne, h1]
              · rw [← hM4, ← k5]
                simp [hne]
              · rw [← hM4]
                simp [hne]
              · rw [← hM4]; exact k3
              · rw [← hM4]
                show m3.siz aid = _
                rw [la3, si2 aid la]
              · intro o ho
                rw [← hM4, ← ka o (by omega)]
                have h1 : ¬ (c * 12 + 8 ≤ o ∧ o < c * 12 + 9) := by omega
                simp [hne', h1]
              · intro o ho
                by_cases h8 : o = 8
                · subst h8
                  rw [← hM4, hfin]
                  simp [eSta, eCon, Bk.enc]
                · have h1 : ¬ (c * 12 + 8 ≤ c * 12 + o ∧ c * 12 + o < c * 12 + 9) := by omega
                  rw [← hb o ho h8, ← hM4]
                  simp only []
                  rw [if_neg (by omega), if_neg (by omega)]
              · intro id hid
                rw [← hM4] at hid ⊢
                have hid' : m3.next ≤ id := Nat.le_trans (Nat.le_add_right _ _) hid
                refine a5 id (by omega) ?_
                rw [mo2 id (by omega)]
                exact hcs.fresh id (by omega)
              · rw [← hM4]; exact Nat.le_add_right _ _
              · intro id n e hid hlo
                have hlo' := H.lo
                rw [← hM4]
                refine ⟨?_, rfl, rfl⟩
                funext o
                simp only []
                rw [if_neg (by omega), if_neg (by omega)]
              · have := H.lo.2.2
                rw [← hM4]; show lo ≤ m3.next + _; omega
        · rw [if_neg hf] at hstep
          have hfb : (s0.fin != t + 1) = true := by simp [hf]
          simp [e0, e1, e12, e13, hcl, hm2, d4, own70 c hcl, ma, f8, wt, hf, hfb, hww c hcl]
          refine ⟨by omega, c + 1, by omega, by simp, ?_⟩
          rw [hstep]
          exact ⟨d, out, hcs.bump _, H.d, H.out.grow (Grow.bump _ _), H.lo.1, H.lo.2.1, by have := H.lo.2.2; simp; omega⟩
      · have : c = x0.l.length := by omega
        subst this
        simp [e0, e1, e12, e13]
        exact ⟨d, out, H.cm.bump _, H.d, H.out.grow (Grow.bump _ _), H.lo.1, H.lo.2.1, by have := H.lo.2.2; simp; omega⟩)
  obtain ⟨rfl, h1⟩ := hp
  simp
  exact h1
end Go.Proofs.YtmfdjipijifabaaDoor
end
section
/- The contest: which contests are valid. -/
set_option linter.unusedVariables false
set_option linter.unusedSimpArgs false
set_option linter.unnecessarySimpa false
set_option maxRecDepth 100000
namespace Go.Proofs.YtmfdjipijifabaaDoor
open Go.Ab

theorem c20 (k : Nat) (hk : 1 ≤ k) (x : Int) (h1 : 0 ≤ x ∧ x ≤ 1099511627776) (m : Mem) :
    cCall C T k 20 [.int .i64 x] m = some (.bool false, m) := by
  refine pure_call kd20 0 hk (by simp; rfl) fun k hk => ?_
  rw [body20]
  have h2 : ¬ x < 0 := by omega
  have h3 : ¬ 1099511627776 < x := by omega
  simp [codeOf, Tryd.f20, h2, h3]

/-- A contest. -/
structure Cts where
  st : List Con
  h : List (List Bool)
  ask : Bool
  slots : Int
def eCts (c : Cts) : List AVal := [.imm c.st.length (c.st.flatMap eCon), .imm c.h.length (c.h.flatMap eBRow), .bool c.ask, .int .i64 c.slots]

structure Cts.ok (c : Cts) : Prop where
  n : 2 ≤ c.st.length ∧ c.st.length ≤ 16
  h : c.h.length = c.st.length
  slots : 0 ≤ c.slots ∧ c.slots ≤ 2000
  row : ∀ i (hi : i < c.h.length), c.h[i].length = c.st.length
  diag : ∀ i (hi : i < c.h.length) (hj : i < c.h[i].length), c.h[i][i] = false
  one : ∀ i (hi : i < c.st.length), c.st[i].b.ok ∧ (0 ≤ c.st[i].frames ∧ c.st[i].frames ≤ 1000) ∧ (1 ≤ c.st[i].air ∧ c.st[i].air ≤ 200) ∧ c.st[i].to < c.st.length ∧ c.st[i].to ≠ i

theorem ld53 (a b c d e f g : AVal) (r : List AVal) (m : Mem) : loadA Tryd.prog 53 (.iptr (a :: b :: c :: d :: e :: f :: g :: r)) m = some (.agg [a, b, c, d, e, f, g]) := load_iptr_agg (cs := [a, b, c, d, e, f, g]) ag53 sz53 rfl

theorem c18 (k : Nat) (c : Cts) (hc : c.ok) (hk : c.st.length + 10 ≤ k) (m : Mem) :
    cCall C T k 18 [.agg (eCts c)] m = some (.int .i64 0, m) := by
  refine pure_call kd18 (c.st.length + 9) hk (args' := [.agg (eCts c)]) (by simp [eCts]) fun k hk => ?_
  rw [body18]
  have l26 := (sl_imm eCon c.st).len (P := Tryd.prog) Tryd.underlying26
  have l27 := (sl_imm eBRow c.h).len (P := Tryd.prog) Tryd.underlying27
  have hn := hc.n
  have hsl := hc.slots
  have a1 := fun m => c36 k (by omega) c.st.length 2 16 m
  have a2 := fun m => c36 k (by omega) c.slots 0 2000 m
  have b1 : (2 : Int) ≤ c.st.length ∧ (c.st.length : Int) ≤ 16 := by omega
  have b2 : (c.h.length : Int) = c.st.length := by rw [hc.h]
  simp [codeOf, Tryd.f18, eCts, l26, l27, a1, a2, b1, b2, hsl]
  generalize hl' : cCode C _ _ _ (.loop _) _ = r
  obtain ⟨e, s', rfl, he, hp⟩ := loop_rule hl' (fun q s => s.env 1 = .ptr 1 0 ∧ s.env 3 = .int .i64 c.st.length ∧ s.env 26 = .imm c.st.length (c.st.flatMap eCon) ∧ s.env 27 = .int .i64 c.st.length ∧ Holds 1 (eCts c) s.mem ∧ ∃ i, i + q = c.st.length ∧ s.env 28 = .int .i64 (i : Nat))
    (fun e s => e = .exit 0) c.st.length (by omega) (by
      refine ⟨by simp, by simp, by simp, by simp, ⟨by simp, by simp [upd], ?_, ?_⟩, 0, by simp, by simp⟩
      · intro o ho; simp [eCts]
      · intro i hi
        simp at hi
        show upd C.m0.mode 1 Md.rw i = .dead
        rw [upd, if_neg (by omega), m0_mode, if_neg (by intro h; have := h.1; simp at this; omega)]) (by
      rintro q s ⟨e1, e3, e26, e27, hh, i, hiq, e28⟩
      by_cases hi : i < c.st.length
      · have hm1 := hh.rw
        have w0 : s.mem.cell 1 0 = some (.imm c.st.length (c.st.flatMap eCon)) := hh.cell 0 (by simp [eCts])
        have w1 : s.mem.cell 1 1 = some (.imm c.h.length (c.h.flatMap eBRow)) := hh.cell 1 (by simp [eCts])
        have hfr : ∀ n, s.mem.mode (s.mem.next + n) = .dead := fun n => hh.fresh _ (by omega)
        have hlt := hh.lt
        have h1n : ∀ n, ¬ 1 = s.mem.next + n := fun n => by omega
        have hax := (sl_imm eCon c.st).indexAddr (P := Tryd.prog) Tryd.underlying26 sz53 eCon_len (k := .i64) hi
        have hih : i < c.h.length := by rw [hc.h]; exact hi
        have hbx := (sl_imm eBRow c.h).indexAddr (P := Tryd.prog) Tryd.underlying27 sz23 eBRow_len (k := .i64) hih
        have hrl := hc.row i hih
        have hir : i < c.h[i].length := by omega
        have hcx := (sl_imm eBool c.h[i]).indexAddr (P := Tryd.prog) Tryd.underlying23 sz4 eBool_len (k := .i64) hir
        have hdg := hc.diag i hih hir
        have l23 := (sl_imm eBool c.h[i]).len (P := Tryd.prog) Tryd.underlying23
        rw [hrl] at hcx l23
        have hone := hc.one i hi
        have g37 := c37 k (by omega) c.st[i].b hone.1
        have g1 := fun m => c36 k (by omega) c.st[i].frames 0 1000 m
        have g2 := fun m => c36 k (by omega) c.st[i].air 1 200 m
        have g3 := fun m => c36 k (by omega) c.st[i].to 0 (c.st.length - 1) m
        have k1 := hone.2.1
        have k2 := hone.2.2.1
        have k3 : (0 : Int) ≤ c.st[i].to := by omega
        have k4 : (c.st[i].to : Int) ≤ c.st.length - 1 := by omega
        have k5 : ¬ (c.st[i].to : Int) = i := by omega
        have k6 : ((c.st[i].to : Int) == i) = false := by simp [k5]
        have hww : IntKind.i64.wrap ((i : Int) + 1) = ((i + 1 : Nat) : Int) := IntWalk.i64_in _ (by omega)
        have hw2 : IntKind.i64.wrap ((c.st.length : Int) - 1) = c.st.length - 1 := IntWalk.i64_in _ (by omega)
        simp only [Bk.enc] at g37
        simp [e1, e3, e26, e27, e28, hi, hax, eCon, Bk.enc, ld53, hfr, hm1, w0, w1, h1n, hbx, eBRow, load_iptr_one ag23 sz23, hrl, l23, hcx, eBool, load_iptr_one ag4 sz4, hdg, g37, g1, g2, g3, k1, k2, k3, k4, k5, k6, hww, hw2]
        exact ⟨by omega, hh.grow (Grow.put s.mem _ _ 4 57 7 7 (by omega)), i + 1, by omega, by simp⟩
      · simp [e1, e3, e26, e27, e28, hi])
  subst hp
  simp
end Go.Proofs.YtmfdjipijifabaaDoor
end

/- Part 8 of a proof in many texts, put together: definitions and lemmas. The theorem stands in the last text; no conditions. -/
import Derived.Test.YtmfdjipijifabaaDoorPart7
section
/- The contest as a law of its own: what the stations keep, and what more slots do. -/
set_option linter.unusedVariables false
set_option linter.unusedSimpArgs false
namespace Go.Proofs.YtmfdjipijifabaaDoor
open Go.Ab

theorem drawn_ok {cat t : Nat} {d : Int} (hc : cat < 4) (ht : t < 7) (hd : 0 ≤ d) : (drawn cat t d).ok := by
  have h := aft_range (cat := cat) (t := t)
  have h1 : 0 ≤ d % (aft cat t + 1) := Int.emod_nonneg _ (by omega)
  have h2 : d % (aft cat t + 1) < aft cat t + 1 := Int.emod_lt_of_pos _ (by omega)
  exact ⟨hc, ht, h1, by show d % (aft cat t + 1) ≤ aft cat t; omega⟩
theorem idle_ok {b : Bk} (h : b.ok) : b.idle.ok := by
  obtain ⟨h1, h2, h3, h4⟩ := h
  exact ⟨h1, h2, by show 0 ≤ max (b.cnt - 1) 0; omega, by show max (b.cnt - 1) 0 ≤ aft b.cat b.t; omega⟩
theorem done_ok {b : Bk} (h : b.ok) (bad : Bool) {d : Int} (hd : 0 ≤ d) : (b.done bad d).1.ok := by
  obtain ⟨h1, h2, h3, h4⟩ := h
  unfold Bk.done
  split
  · rename_i hb
    simp only [Bool.and_eq_true, decide_eq_true_eq] at hb
    exact drawn_ok h1 (by omega) hd
  · exact drawn_ok h1 (by omega) hd

/-- What the stations keep. -/
def LOk (n : Nat) (t : Int) (l : List Sta) : Prop :=
  ∀ (i : Nat) (s : Sta), l[i]? = some s → s.c.b.ok ∧ s.c.to < n ∧ (1 ≤ s.c.air ∧ s.c.air ≤ 6) ∧ (-t ≤ s.c.frames ∧ s.c.frames ≤ 1000) ∧ (s.fin ≠ 0 → s.c.b.cnt = 0)

section
variable {h : List (List Bool)} {ask : Bool} {n : Nat} {tos : Nat → Nat} {t : Int} {l : List Sta} {out : List Bur}

theorem LOk.beg (H : LOk n t l) (M : MInv h ask n tos (t - 1) l out) (hno : ∀ (i : Nat) (s : Sta), l[i]? = some s → s.fin ≠ t ∨ s.fin = 0) : LOk n t (begL h ask t l) := by
  intro i s1 h1
  rw [begL_get] at h1
  cases hs : l[i]? with
  | none => rw [hs] at h1; cases h1
  | some s =>
    rw [hs] at h1
    simp only [Option.map_some, Option.some.injEq] at h1
    subst h1
    obtain ⟨q1, q2, q3, q4, q5⟩ := H i s hs
    unfold begF
    split
    · rename_i hf
      obtain ⟨s', e1, e2, e3⟩ := freeAt_true hf
      rw [hs] at e1
      cases e1
      unfold begS
      split
      · refine ⟨idle_ok q1, q2, q3, q4, fun hfin => ?_⟩
        have hwf := M.wf i s hs
        have hnt := hno i s hs
        exfalso
        unfold Sta.sends at e2
        simp only [Bool.and_eq_false_iff, decide_eq_false_iff_not] at e2
        have : s.fin ≠ 0 := hfin
        omega
      · refine ⟨q1, q2, q3, q4, fun _ => ?_⟩
        have := q1.2.2.1
        show s.c.b.cnt = 0
        omega
    · exact ⟨q1, q2, q3, q4, q5⟩

theorem LOk.air (H : LOk n t l) (ht : 0 ≤ t) : LOk n t (airL h ask t l) := by
  intro i s2 h2
  have hi : i < l.length := by
    have := (List.getElem?_eq_some_iff.1 h2).1
    rwa [airL_len] at this
  obtain ⟨s', a1, a2, a3, a4, a5, a6⟩ := airL_get (h := h) (ask := ask) (t := t) (List.getElem?_eq_getElem hi)
  rw [h2] at a1
  cases a1
  obtain ⟨q1, q2, q3, q4, q5⟩ := H i l[i] (List.getElem?_eq_getElem hi)
  rw [a2]
  refine ⟨q1, q2, q3, q4, fun hf => q5 ?_⟩
  rw [a4] at hf
  split at hf
  · rename_i ha
    unfold ansAt onAt at ha
    rw [List.getElem?_eq_getElem hi] at ha
    simp only [Bool.and_eq_true, Sta.sends, decide_eq_true_eq] at ha
    omega
  · exact hf

theorem LOk.fin {x : Con3} (H : LOk n t x.l) (hd : ∀ d ∈ x.d, 0 ≤ d ∧ d ≤ 1099511627776) (c : Nat) : LOk n (t + 1) (finC t x c).l ∧ (∀ d ∈ (finC t x c).d, 0 ≤ d ∧ d ≤ 1099511627776) := by
  have key : ∀ c, (∀ (i : Nat) (s : Sta), (finC t x c).l[i]? = some s → s.c.b.ok ∧ s.c.to < n ∧ (1 ≤ s.c.air ∧ s.c.air ≤ 6) ∧ (-t - 1 ≤ s.c.frames ∧ s.c.frames ≤ 1000) ∧ (s.fin ≠ 0 → s.c.b.cnt = 0) ∧ (c ≤ i → -t ≤ s.c.frames)) ∧ (∀ d ∈ (finC t x c).d, 0 ≤ d ∧ d ≤ 1099511627776) := by
    intro c
    induction c with
    | zero =>
      refine ⟨fun i s hi => ?_, hd⟩
      obtain ⟨q1, q2, q3, q4, q5⟩ := H i s hi
      exact ⟨q1, q2, q3, by omega, q5, fun _ => q4.1⟩
    | succ c ih =>
      obtain ⟨ih1, ih2⟩ := ih
      simp only [finC]
      generalize finC t x c = y at ih1 ih2
      unfold finOne
      split
      · rename_i s hs
        split
        · have hcl : c < y.l.length := (List.getElem?_eq_some_iff.1 hs).1
          have hdv : 0 ≤ y.d.headD 0 := by
            cases hy : y.d with
            | nil => simp
            | cons a b => rw [hy] at ih2; exact (ih2 a (by simp)).1
          refine ⟨fun i s' hi => ?_, fun d hd => ih2 d (List.mem_of_mem_tail hd)⟩
          by_cases hic : i = c
          · subst hic
            simp only [List.getElem?_set_self hcl, Option.some.injEq] at hi
            subst hi
            obtain ⟨q1, q2, q3, q4, q5, q6⟩ := ih1 i s hs
            have q7 := q6 (Nat.le_refl _)
            refine ⟨done_ok q1 _ hdv, q2, q3, ?_, fun h => absurd rfl h, fun h => by omega⟩
            show -t - 1 ≤ (if (s.c.b.done s.spoiled (y.d.headD 0)).2 || !s.spoiled then s.c.frames - 1 else s.c.frames) ∧ (if (s.c.b.done s.spoiled (y.d.headD 0)).2 || !s.spoiled then s.c.frames - 1 else s.c.frames) ≤ 1000
            split <;> omega
          · rw [List.getElem?_set_ne (fun e => hic e.symm)] at hi
            obtain ⟨q1, q2, q3, q4, q5, q6⟩ := ih1 i s' hi
            exact ⟨q1, q2, q3, q4, q5, fun h => q6 (by omega)⟩
        · refine ⟨fun i s' hi => ?_, ih2⟩
          obtain ⟨q1, q2, q3, q4, q5, q6⟩ := ih1 i s' hi
          exact ⟨q1, q2, q3, q4, q5, fun h => q6 (by omega)⟩
      · refine ⟨fun i s' hi => ?_, ih2⟩
        obtain ⟨q1, q2, q3, q4, q5, q6⟩ := ih1 i s' hi
        exact ⟨q1, q2, q3, q4, q5, fun h => q6 (by omega)⟩
  obtain ⟨k1, k2⟩ := key c
  exact ⟨fun i s hi => by
    obtain ⟨q1, q2, q3, q4, q5, q6⟩ := k1 i s hi
    exact ⟨q1, q2, q3, by omega, q5⟩, k2⟩

/-- All that is needed before each slot. -/
theorem run_ok {l0 : List Sta} {d : List Int} (hlen : l0.length = n) (hh : h.length = n) (hlt : ∀ i, i < n → tos i < n)
    (h0 : ∀ (i : Nat) (s : Sta), l0[i]? = some s → s.fin = 0 ∧ s.c.to = tos i ∧ 1 ≤ s.c.air ∧ s.c.air ≤ 6 ∧ s.c.b.ok ∧ 0 ≤ s.c.frames ∧ s.c.frames ≤ 1000) (hd : ∀ d' ∈ d, 0 ≤ d' ∧ d' ≤ 1099511627776) (k : Nat) :
    LOk n k (runR h ask l0 d k).l ∧ (∀ d' ∈ (runR h ask l0 d k).d, 0 ≤ d' ∧ d' ≤ 1099511627776) ∧ (runR h ask l0 d k).l.length = n ∧ (runR h ask l0 d k).out.length ≤ n * k ∧
      LOk n k (begL h ask k (runR h ask l0 d k).l) ∧ LOk n k (airL h ask k (begL h ask k (runR h ask l0 d k).l)) := by
  have inv := fun k => run_inv (ask := ask) (d := d) hlen hh hlt (fun i s hi => ⟨(h0 i s hi).1, (h0 i s hi).2.1, (h0 i s hi).2.2.1, (h0 i s hi).2.2.2.1⟩) k
  have main : ∀ k : Nat, LOk n k (runR h ask l0 d k).l ∧ (∀ d' ∈ (runR h ask l0 d k).d, 0 ≤ d' ∧ d' ≤ 1099511627776) ∧ (runR h ask l0 d k).out.length ≤ n * k := by
    intro k
    induction k with
    | zero =>
      refine ⟨fun i s hi => ?_, hd, Nat.zero_le _⟩
      obtain ⟨q1, q2, q3, q4, q5, q6, q7⟩ := h0 i s hi
      refine ⟨q5, ?_, ⟨q3, q4⟩, by simp; omega, fun h => absurd q1 h⟩
      rw [q2]
      exact hlt i (by rw [← hlen]; exact (List.getElem?_eq_some_iff.1 hi).1)
    | succ k ih =>
      obtain ⟨i1, i2, i3⟩ := ih
      have hM := inv k
      have hb := i1.beg (ask := ask) hM.1 hM.2
      have ha := hb.air (h := h) (ask := ask) (by omega)
      have hf := LOk.fin (x := ⟨airL h ask k (begL h ask k (runR h ask l0 d k).l), (runR h ask l0 d k).d, (runR h ask l0 d k).out⟩) ha i2 (runR h ask l0 d k).l.length
      refine ⟨?_, hf.2, ?_⟩
      · have := hf.1
        rw [show ((k : Int) + 1) = ((k + 1 : Nat) : Int) by omega] at this
        exact this
      · show (slotR h ask k (runR h ask l0 d k)).out.length ≤ _
        have h1 : (slotR h ask k (runR h ask l0 d k)).out.length ≤ (runR h ask l0 d k).out.length + (runR h ask l0 d k).l.length := by
          unfold slotR
          have key : ∀ (t : Int) (x : Con3) (c : Nat), (finC t x c).out.length ≤ x.out.length + c := by
            intro t x c
            induction c with
            | zero => exact Nat.le_refl _
            | succ c ih =>
              simp only [finC]
              generalize finC t x c = y at ih ⊢
              unfold finOne
              split
              · split
                · simp; omega
                · omega
              · omega
          exact key _ _ _
        have h2 : (runR h ask l0 d k).l.length = n := (inv k).1.len
        rw [h2] at h1
        rw [Nat.mul_succ]
        omega
  obtain ⟨m1, m2, m3⟩ := main k
  have hb := m1.beg (ask := ask) (inv k).1 (inv k).2
  exact ⟨m1, m2, (inv k).1.len, m3, hb, hb.air (by omega)⟩

theorem run_more {l0 : List Sta} {d : List Int} (hlen : l0.length = n) (hh : h.length = n) (hlt : ∀ i, i < n → tos i < n)
    (h0 : ∀ (i : Nat) (s : Sta), l0[i]? = some s → s.fin = 0 ∧ s.c.to = tos i ∧ 1 ≤ s.c.air ∧ s.c.air ≤ 6) (k j : Nat) :
    ∃ r, (runR h ask l0 d (k + j)).out = (runR h ask l0 d k).out ++ r ∧ ∀ b ∈ r, (k : Int) < b.fin := by
  induction j with
  | zero => exact ⟨[], by simp, by simp⟩
  | succ j ih =>
    obtain ⟨r, h1, h2⟩ := ih
    have inv := run_inv (ask := ask) (d := d) hlen hh hlt h0 (k + j)
    have hS := slot_is inv.1 (by omega) inv.2 hh hlt
    have H2 := inv.1.slot (by omega) inv.2 hS
    have H3 := finC_inv (x := ⟨airL h ask (k + j : Nat) (begL h ask (k + j : Nat) (runR h ask l0 d (k + j)).l), (runR h ask l0 d (k + j)).d, (runR h ask l0 d (k + j)).out⟩) H2 (by omega) (runR h ask l0 d (k + j)).l.length (by rw [inv.1.len]; exact Nat.le_refl _)
    obtain ⟨r2, e1, e2⟩ := H3.2.2
    refine ⟨r ++ r2, ?_, fun b hb => ?_⟩
    · show (slotR h ask (k + j : Nat) (runR h ask l0 d (k + j))).out = _
      unfold slotR
      rw [e1, ← List.append_assoc, ← h1]
    · rcases List.mem_append.1 hb with hb | hb
      · exact h2 b hb
      · have := e2 b hb; omega
end
end Go.Proofs.YtmfdjipijifabaaDoor
end
section
/- The contest: all of it. -/
set_option linter.unusedVariables false
set_option linter.unusedSimpArgs false
set_option linter.unnecessarySimpa false
set_option maxRecDepth 100000
namespace Go.Proofs.YtmfdjipijifabaaDoor
open Go.Ab

def mkSta (c : Con) : Sta := ⟨c, 0, 0, false, false, 0⟩

structure RunA (cid : Nat) (c : Cts) (dv s4 : AVal) (l : List Sta) (m : Mem) : Prop where
  h1 : Holds 1 (eCts c) m
  lt : cid < m.next
  one : 1 < cid
  rw : m.mode cid = .rw
  c1 : m.cell cid 1 = some (.imm c.h.length (c.h.flatMap eBRow))
  c2 : m.cell cid 2 = some (.bool c.ask)
  c4 : m.cell cid 4 = some s4
  c5 : m.cell cid 5 = some dv
  c6 : m.cell cid 6 = some .nils
  app : App eSta 12 s4 l (cid + 1) m

theorem RunA.own {cid : Nat} {c : Cts} {dv s4 : AVal} {l : List Sta} {m : Mem} (H : RunA cid c dv s4 l m) {id n : Nat} (e : s4 = .own id 0 n 12) : cid < id := by
  rcases H.app with ⟨_, h⟩ | ⟨id', h, h2, _⟩
  · rw [h] at e; cases e
  · rw [h] at e; cases e; omega

theorem RunA.step {cid : Nat} {c : Cts} {dv s4 s4' : AVal} {l l' : List Sta} {m M4 : Mem} (H : RunA cid c dv s4 l m) (hn : m.next ≤ M4.next)
    (hcell : ∀ id o, id < m.next → ¬ (id = cid ∧ o = 4) → (∀ n, s4 ≠ .own id 0 n 12) → M4.cell id o = m.cell id o) (hmode : ∀ id, id < m.next → (∀ n, s4 ≠ .own id 0 n 12) → M4.mode id = m.mode id)
    (h4 : M4.cell cid 4 = some s4') (ha : App eSta 12 s4' l' (cid + 1) M4) (hf : Fresh M4) : RunA cid c dv s4' l' M4 := by
  have h1 := H.one
  have hl := H.lt
  have n1 : ∀ n, s4 ≠ .own 1 0 n 12 := fun n e => by have := H.own e; omega
  have nc : ∀ n, s4 ≠ .own cid 0 n 12 := fun n e => by have := H.own e; omega
  have hh := H.h1
  refine ⟨⟨Nat.lt_of_lt_of_le hh.lt hn, by rw [hmode 1 (by omega) n1]; exact hh.rw, fun o ho => by rw [hcell 1 o (by omega) (by omega) n1]; exact hh.cell o ho, hf⟩, Nat.lt_of_lt_of_le hl hn, h1, by rw [hmode cid hl nc]; exact H.rw,
    by rw [hcell cid 1 hl (by omega) nc]; exact H.c1, by rw [hcell cid 2 hl (by omega) nc]; exact H.c2, h4, by rw [hcell cid 5 hl (by omega) nc]; exact H.c5, by rw [hcell cid 6 hl (by omega) nc]; exact H.c6, ha⟩

theorem inf53 : ∃ i, Tryd.prog.info? 53 = some i ∧ i.size = 7 ∧ i.bytes ≤ 100000 := by
  obtain ⟨i, h1, h2, h3⟩ := inf_of (P := Tryd.prog) (t := 53) (a := 7) (b := 56) (by kernel_rfl)
  exact ⟨i, h1, h2, by omega⟩

theorem inf74 : ∃ i, Tryd.prog.info? 74 = some i ∧ i.size = 12 ∧ i.bytes ≤ 100000 := by
  obtain ⟨i, h1, h2, h3⟩ := inf_of (P := Tryd.prog) (t := 74) (a := 12) (b := 88) (by kernel_rfl)
  exact ⟨i, h1, h2, by omega⟩

theorem c8 (k : Nat) (c : Cts) (hc : c.ok) (hair : ∀ s ∈ c.st, s.air ≤ 6) (dv : AVal) (ds : List Int) (hd : SL eInt dv ds) (hdr : ∀ d ∈ ds, 0 ≤ d ∧ d ≤ 1099511627776) (hdl : ds.length < 2 ^ 20)
    (hk : 2 * c.st.length + ds.length + c.slots.toNat + 40 ≤ k) (args : List AVal) (m m1 : Mem) (hz : freezeL (freezeV 8) args m = some ([.agg (eCts c), dv], m1)) :
    ∃ o nx, cCall C T k 8 args m = some (.tup [o, nx, .int .i64 0], m1) ∧ SL eBur o (runR c.h c.ask (c.st.map mkSta) ds c.slots.toNat).out ∧ ∀ e m, freezeV (e + 1) o m = some (o, m) := by
  obtain ⟨k, rfl⟩ : ∃ j, k = j + 1 := ⟨k - 1, by omega⟩
  have hn := hc.n
  have h18 := fun m => c18 k c hc (by omega) m
  have l26 := (sl_imm eCon c.st).len (P := Tryd.prog) Tryd.underlying26
  obtain ⟨mm, hmm⟩ := skolem (c19 hd (by omega) (fun _ => false) 20 [] [] 1 (Holds 1 (eCts c)) (fun m m' h g => h.grow g) (fun k hk x hx m _ => ⟨m, by simpa using c20 k hk x (hdr x hx) m, Grow.refl m⟩) k (by omega))
  have h19 : ∀ m, Holds 1 (eCts c) m → cCall C T k 19 [dv, .fn 20 [] []] m = some (.bool false, mm m) := fun m hm => by
    rw [(hmm m hm).1]
    simp
  have hbody : ∃ o nx mo, cBody C (cCall C T k) (T 8) k 8 [.agg (eCts c), dv] C.m0 = some (.tup [o, nx, .int .i64 0], mo) ∧ App eBur 5 o (runR c.h c.ask (c.st.map mkSta) ds c.slots.toNat).out 0 mo ∧ ∃ l, App eCon 7 nx l 0 mo := by
    rw [body8]
    simp only [eCts] at h18
    simp [codeOf, Tryd.f8, eCts, h18]
    generalize hM : Mem.mk _ _ _ _ = M
    have hH : Holds 1 (eCts c) M := by
      subst hM
      refine ⟨by simp, by simp [upd], fun o ho => by simp [eCts], fun i hi => ?_⟩
      simp at hi
      show upd C.m0.mode 1 Md.rw i = .dead
      rw [upd, if_neg (by omega), m0_mode, if_neg (by intro h; have := h.1; simp at this; omega)]
    have hH2 := hH.grow (hmm M hH).2
    have y0 := hH2.cell 0 (by simp [eCts])
    have y1 := hH2.cell 1 (by simp [eCts])
    have y2 := hH2.cell 2 (by simp [eCts])
    have y3 := hH2.cell 3 (by simp [eCts])
    simp [eCts] at y0 y1 y2 y3
    have yr := hH2.rw
    have yl := hH2.lt
    have yn : ∀ n, ¬ 1 = (mm M).next + n := fun n => by omega
    have yf : ∀ n, (mm M).mode ((mm M).next + n) = .dead := fun n => hH2.fresh _ (by omega)
    have dc : AVal.cells dv = [dv] := by rcases hd with ⟨_, h | h⟩ | h <;> rw [h] <;> rfl
    have dw : AVal.whole dv = true := by rcases hd with ⟨_, h | h⟩ | h <;> rw [h] <;> rfl
    simp [h19 M hH, y0, y1, y2, y3, yr, yn, yf, l26, ↓dc, ↓dw]
    have hwc : ∀ i : Nat, i < c.st.length → IntKind.i64.wrap ((i : Int) + 1) = ((i + 1 : Nat) : Int) := fun i hi => IntWalk.i64_in _ (by omega)
    generalize hcid : (mm M).next + 3 = cid
    generalize hl' : cCode C _ _ _ (.loop _) _ = r
    obtain ⟨e, s', rfl, he, hp⟩ := loop_rule hl' (fun q s => s.env 2 = .ptr 1 0 ∧ s.env 5 = .nils ∧ s.env 8 = .ptr cid 0 ∧ s.env 25 = .imm c.st.length (c.st.flatMap eCon) ∧ s.env 26 = .int .i64 c.st.length ∧
        ∃ i s4, i + q = c.st.length ∧ s.env 27 = .int .i64 (i : Nat) ∧ RunA cid c dv s4 ((c.st.take i).map mkSta) s.mem)
      (fun e s => e = .exit 0 ∧ s.env 2 = .ptr 1 0 ∧ s.env 5 = .nils ∧ s.env 8 = .ptr cid 0 ∧ ∃ s4, RunA cid c dv s4 (c.st.map mkSta) s.mem) c.st.length (by omega) (by
        refine ⟨by simp, by simp, by simp, by simp, by simp, 0, .nils, by simp, by simp, ?_⟩
        generalize hM2 : St.mem _ = M2
        simp only [] at hM2
        have n2 : M2.next = (mm M).next + 9 := by rw [← hM2]
        have hmo : ∀ id, id ≠ cid → M2.mode id = (mm M).mode id := fun id h => by
          rw [← hM2]; exact if_neg h
        have hce : ∀ id o, id ≠ cid → M2.cell id o = (mm M).cell id o := fun id o h => by
          rw [← hM2]; simp [h]
        refine ⟨⟨by omega, ?_, fun o ho => ?_, fun id hid => ?_⟩, by omega, by omega, by rw [← hM2]; simp, by rw [← hM2]; simp, by rw [← hM2]; simp, by rw [← hM2]; simp, by rw [← hM2]; simp, by rw [← hM2]; simp, .inl ⟨by simp, rfl⟩⟩
        · rw [hmo 1 (by omega)]; exact yr
        · rw [hce 1 o (by omega)]; exact hH2.cell o ho
        · rw [hmo id (by omega)]; exact hH2.fresh id (by omega)) (by
        rintro q s ⟨e2, e5, e8, e25, e26, i, s4, hiq, e27, H⟩
        by_cases hi : i < c.st.length
        · have hax := (sl_imm eCon c.st).indexAddr (P := Tryd.prog) Tryd.underlying26 sz53 eCon_len (k := .i64) hi
          have hh := H.h1
          have hrw := H.rw
          have hc4 := H.c4
          have hlt := H.lt
          have hfr : ∀ n, s.mem.mode (s.mem.next + n) = .dead := fun n => hh.fresh _ (by omega)
          have hnn : ∀ n, ¬ cid = s.mem.next + n := fun n => by omega
          have hnn2 : ∀ n, ¬ s.mem.next + n = cid := fun n => by omega
          simp [e2, e5, e8, e25, e26, e27, hi, hax, eCon, Bk.enc, ld53, hfr, hrw, hc4, hnn, hnn2, buildSliceA, zeros, List.range, List.range.loop]
          generalize hM2 : Mem.mk _ _ _ _ = M2
          have n2 : M2.next = s.mem.next + 17 := by rw [← hM2]
          have mo2 : ∀ id, id ≠ s.mem.next + 3 → id ≠ s.mem.next + 12 → M2.mode id = s.mem.mode id := fun id h h' => by
            rw [← hM2]
            simp [upd, h, h']
          have si2 : ∀ id, id < s.mem.next → M2.siz id = s.mem.siz id := fun id h => by
            rw [← hM2]
            have h1 : ¬ id = s.mem.next + 3 := by omega
            have h2 : ¬ id = s.mem.next + 12 := by omega
            simp [upd, h1, h2]
          have ce2 : ∀ id, id < s.mem.next → M2.cell id = s.mem.cell id := fun id h => by
            rw [← hM2]
            have h1 : ¬ id = s.mem.next + 3 := by omega
            have h2 : ¬ id = s.mem.next + 12 := by omega
            funext o
            simp [h1, h2]
          obtain ⟨inf, i1, i2, i3⟩ := inf74
          have hlen : ((c.st.take i).map mkSta).length < 2 ^ 20 := by simp; omega
          obtain ⟨m3, a1, a2, a3, a4, a5⟩ := App.more (P := Tryd.prog) (t := 70) eSta_len Tryd.underlying70 i1 i2 i3 zc74 rfl (by omega) (H.app.same (by omega) fun id n e hid hlo => ⟨ce2 id hid, mo2 id (by omega) (by omega), si2 id hid⟩) (xid := s.mem.next + 12) (new := s.mem.next + 13) (v := mkSta c.st[i])
            (by rw [← hM2]; simp) (fun o ho => by
              rw [← hM2]
              rcases lt12 ho with rfl | rfl | rfl | rfl | rfl | rfl | rfl | rfl | rfl | rfl | rfl | rfl <;> simp [eSta, mkSta, eCon, Bk.enc]) (by omega) (by rw [mo2 _ (by omega) (by omega)]; exact hfr 13) (by omega) hlen
          have hone := H.one
          have nc : ∀ n, s4 ≠ .own cid 0 n 12 := fun n e => by have := H.own e; omega
          obtain ⟨k1, k2, k3⟩ := a4 cid (by omega) nc
          have k4 : m3.mode cid = .rw := by rw [k2, mo2 cid (by omega) (by omega)]; exact hrw
          have k5 : m3.cell cid 4 = some s4 := by rw [k1, ce2 cid hlt]; exact hc4
          have wc := hwc i hi
          simp [a1, e2, e5, e8, e25, e26, e27, k4, k5, wc]
          refine ⟨_, _, ⟨rfl, rfl⟩, ?_⟩
          simp [e2, e5, e8, e25, e26]
          generalize hM4 : Mem.mk _ _ _ _ = M4
          refine ⟨by omega, i + 1, by omega, by simp, .own (s.mem.next + 13) 0 (((c.st.take i).map mkSta).length + 1) 12, ?_⟩
          have htk : (c.st.take (i + 1)).map mkSta = (c.st.take i).map mkSta ++ [mkSta c.st[i]] := by
            rw [List.take_succ_eq_append_getElem hi, List.map_append]
            rfl
          have n4 : m3.next ≤ M4.next := by rw [← hM4]; exact Nat.le_add_right _ _
          have mo4 : M4.mode = m3.mode := by rw [← hM4]
          have ce4 : ∀ id o, ¬ (id = cid ∧ o = 4) → M4.cell id o = m3.cell id o := fun id o h => by
            rw [← hM4]
            have : ¬ (id = cid ∧ 4 ≤ o ∧ o < 5) := by omega
            simp [this]
          rw [List.map_take] at htk
          first | rw [htk] | skip
          refine H.step (by omega) (fun id o hid hno hs => ?_) (fun id hid hs => ?_) ?_ ?_ (fun id hid => ?_)
          · rw [ce4 id o hno, (a4 id (by omega) hs).1, ce2 id hid]
          · rw [mo4, (a4 id (by omega) hs).2.1, mo2 id (by omega) (by omega)]
          · rw [← hM4]; simp
          · refine App.same (m := m3) ?_ n4 fun id n e hid hlo => ⟨?_, by rw [mo4], by rw [← hM4]⟩
            · first | exact a2 | (rw [List.map_take] at a2; exact a2) | (simpa [List.map_take] using a2)
            · funext o
              exact ce4 id o (by omega)
          · rw [mo4]
            refine a5 id (by omega) ?_
            rw [mo2 id (by omega) (by omega)]
            exact hh.fresh id (by omega)
        · have : i = c.st.length := by omega
          subst this
          rw [List.take_length] at H
          simp [e2, e5, e8, e25, e26, e27]
          exact ⟨s4, H.step (Nat.le_add_right _ _) (fun _ _ _ _ _ => rfl) (fun _ _ _ => rfl) H.c4 (H.app.grow (Grow.bump _ _)) (fun i hi => H.h1.fresh i (by simp only [] at hi; omega))⟩)
    obtain ⟨rfl, e2, e5, e8, s4, H⟩ := hp
    have hlenA : (c.st.map mkSta).length = c.st.length := by simp
    obtain ⟨aid, hs4, ha1, ha2, ha3, ha4, ha5⟩ : ∃ aid, s4 = .own aid 0 c.st.length 12 ∧ cid + 1 ≤ aid ∧ aid < s'.mem.next ∧ s'.mem.mode aid = .rw ∧ s'.mem.siz aid = c.st.length * 12 ∧ ∀ o, o < c.st.length * 12 → s'.mem.cell aid o = ((c.st.map mkSta).flatMap eSta)[o]? := by
      rcases H.app with ⟨h, _⟩ | ⟨id, h1, h2, h3, h4, h5, h6⟩
      · have := congrArg List.length h
        simp at this
        rw [this] at hn
        simp at hn
      · rw [hlenA] at h1 h5 h6
        exact ⟨id, h1, h2, h3, h4, h5, h6⟩
    subst hs4
    have hone := H.one
    have hlt := H.lt
    have h0a : 0 < aid := by omega
    have cst0 : Cst cid aid s'.mem.next c.h c.ask ⟨c.st.map mkSta, ds, []⟩ dv .nils s'.mem := by
      refine ⟨⟨hlt, H.rw, H.c1, H.c2, by rw [hlenA]; exact H.c4, H.c5, H.c6, ⟨ha2, ha3, by rw [hlenA]; exact ha4, fun i hi o ho => ?_⟩, by omega, H.h1.fresh⟩, hd, App.nil, hlt, ha2, Nat.le_refl _⟩
      rcases H.app.get eSta_len hi with ⟨id, g1, g2, g3, g4, g5⟩
      rw [hlenA] at g1
      cases g1
      exact g5 o ho
    have n0 := H.h1.cell 3 (by simp [eCts])
    have nr := H.h1.rw
    simp [eCts] at n0
    generalize hlo : s'.mem.next = lo at cst0
    have hh := hc.h
    have htos : ∀ i, i < c.st.length → (fun i => (c.st[i]?.map (·.to)).getD 0) i < c.st.length := fun i hi => by
      simp [hi]
      exact (hc.one i hi).2.2.2.1
    have hinit : ∀ (i : Nat) (s : Sta), (c.st.map mkSta)[i]? = some s → s.fin = 0 ∧ s.c.to = (fun i => (c.st[i]?.map (·.to)).getD 0) i ∧ 1 ≤ s.c.air ∧ s.c.air ≤ 6 ∧ s.c.b.ok ∧ 0 ≤ s.c.frames ∧ s.c.frames ≤ 1000 := by
      intro i s hs
      have hi : i < c.st.length := by
        have := (List.getElem?_eq_some_iff.1 hs).1
        simpa using this
      rw [List.getElem?_map, List.getElem?_eq_getElem hi] at hs
      simp only [Option.map_some, Option.some.injEq] at hs
      subst hs
      obtain ⟨o1, o2, o3, o4, o5⟩ := hc.one i hi
      exact ⟨rfl, by simp [hi, mkSta], o3.1, hair _ (List.getElem_mem hi), o1, o2.1, o2.2⟩
    have rok := fun k => run_ok (n := c.st.length) (h := c.h) (ask := c.ask) (d := ds) (l0 := c.st.map mkSta) hlenA hh htos hinit hdr k
    have hws : ∀ t : Nat, (t : Int) < c.slots → IntKind.i64.wrap ((t : Int) + 1) = ((t + 1 : Nat) : Int) := fun t ht => IntWalk.i64_in _ (by have := hc.slots; omega)
    have hslots : ((c.slots.toNat : Nat) : Int) = c.slots := Int.toNat_of_nonneg hc.slots.1
    have hs2000 := hc.slots
    simp [e2, e5, e8, n0, nr]
    generalize hl' : cCode C _ _ _ (.loop _) _ = r
    obtain ⟨e, s2, rfl, he, hp⟩ := loop_rule hl' (fun q s => s.env 5 = .nils ∧ s.env 8 = .ptr cid 0 ∧ s.env 44 = .int .i64 c.slots ∧
        ∃ t, t + q = c.slots.toNat ∧ s.env 45 = .int .i64 (t : Nat) ∧ ∃ d out, Cst cid aid lo c.h c.ask (runR c.h c.ask (c.st.map mkSta) ds t) d out s.mem)
      (fun e s => e = .exit 2 ∧ s.env 5 = .nils ∧ s.env 8 = .ptr cid 0 ∧ ∃ d out, Cst cid aid lo c.h c.ask (runR c.h c.ask (c.st.map mkSta) ds c.slots.toNat) d out s.mem) c.slots.toNat (by omega) (by
        refine ⟨by simp [e5], by simp [e8], by simp, 0, by simp, by simp, dv, .nils, ?_⟩
        exact ⟨cst0.cm.bump _, cst0.d, cst0.out.grow (Grow.bump _ _), cst0.lo.1, cst0.lo.2.1, by rw [← hlo]; exact Nat.le_add_right _ _⟩) (by
        rintro q s ⟨e5, e8, e44, t, htq, e45, d, out, X⟩
        by_cases hts : (t : Int) < c.slots
        · obtain ⟨r1, r2, r3, r4, r5, r6⟩ := rok t
          have hbl : (begL c.h c.ask t (runR c.h c.ask (c.st.map mkSta) ds t).l).length = c.st.length := by simp [r3]
          have hal : (airL c.h c.ask t (begL c.h c.ask t (runR c.h c.ask (c.st.map mkSta) ds t).l)).length = c.st.length := by rw [airL_len, hbl]
          have mem : ∀ {l : List Sta} {u : Int}, LOk c.st.length u l → ∀ s ∈ l, s.c.b.ok ∧ s.c.to < c.st.length ∧ (1 ≤ s.c.air ∧ s.c.air ≤ 6) ∧ (-u ≤ s.c.frames ∧ s.c.frames ≤ 1000) ∧ (s.fin ≠ 0 → s.c.b.cnt = 0) := fun hl s hs => by
            obtain ⟨i, hi, rfl⟩ := List.getElem_of_mem hs
            exact hl i _ (List.getElem?_eq_getElem hi)
          obtain ⟨m21, h21⟩ := Classical.axiomOfChoice fun n : Nat => c21 cid aid c.h c.ask (runR c.h c.ask (c.st.map mkSta) ds t).l d out t (by omega) (by rw [r3]; exact hc.row) (by omega) (by omega) ⟨by omega, by omega⟩ (fun s hs => ⟨(mem r1 s hs).1, by have := (mem r1 s hs).2.2.1; omega⟩) k (by omega) _ (X.cm.bump n)
          obtain ⟨m22, h22⟩ := Classical.axiomOfChoice fun n : Nat × Nat => c22 cid aid c.h c.ask (begL c.h c.ask t (runR c.h c.ask (c.st.map mkSta) ds t).l) d out t (by omega) (by rw [hbl]; exact hc.row) (by omega) ⟨by omega, by omega⟩ (fun s hs => by have := mem r5 s hs; rw [hbl]; omega) k (by omega) _ ((h21 n.1).2.1.bump n.2)
          have X2 : ∀ (a b i : Nat), Cst cid aid lo c.h c.ask ⟨airL c.h c.ask t (begL c.h c.ask t (runR c.h c.ask (c.st.map mkSta) ds t).l), (runR c.h c.ask (c.st.map mkSta) ds t).d, (runR c.h c.ask (c.st.map mkSta) ds t).out⟩ d out { cell := (m22 (a, b)).cell, mode := (m22 (a, b)).mode, siz := (m22 (a, b)).siz, next := (m22 (a, b)).next + i } := fun a b i => by
            have kp := (((Keep.bump aid s.mem a).trans (h21 a).2.2).trans (Keep.bump aid _ b)).trans ((h22 (a, b)).2.2.trans (Keep.bump aid _ i))
            have lo' := X.lo
            exact ⟨(h22 (a, b)).2.1.bump i, X.d, X.out.same kp.next fun id n e hid hlo => ⟨kp.cell id hid (by omega), kp.mode id hid, kp.siz id hid⟩, lo'.1, lo'.2.1, Nat.le_trans lo'.2.2 kp.next⟩
          obtain ⟨m23, h23⟩ := Classical.axiomOfChoice fun n : (Nat × Nat) × Nat => c23 cid aid lo h0a c.h c.ask ⟨airL c.h c.ask t (begL c.h c.ask t (runR c.h c.ask (c.st.map mkSta) ds t).l), (runR c.h c.ask (c.st.map mkSta) ds t).d, (runR c.h c.ask (c.st.map mkSta) ds t).out⟩ d out t (by simp only []; omega) (by
              simp only []
              have : c.st.length * t ≤ 16 * 2000 := Nat.mul_le_mul hn.2 (by omega)
              omega) ⟨by omega, by omega⟩ (fun s hs => by
              have := mem r6 s hs
              exact ⟨this.1, fun h => this.2.2.2.2 (by omega), by omega, by omega⟩) r2 k (by simp only []; omega) _ (X2 n.1.1 n.1.2 n.2)
          have g21 := fun n => (h21 n).1
          have g22 := fun a b => (h22 (a, b)).1
          have g23 := fun a b i => (h23 ((a, b), i)).1
          simp only [Nat.add_assoc] at g21 g22 g23
          have wt := hws t hts
          simp [e5, e8, e44, e45, hts, g21, g22, g23, wt]
          obtain ⟨d', out', Y⟩ := (h23 ((_, _), _)).2
          refine ⟨by omega, t + 1, by omega, by simp, d', out', ?_⟩
          rw [hal] at Y
          have : runR c.h c.ask (c.st.map mkSta) ds (t + 1) = finC t ⟨airL c.h c.ask t (begL c.h c.ask t (runR c.h c.ask (c.st.map mkSta) ds t).l), (runR c.h c.ask (c.st.map mkSta) ds t).d, (runR c.h c.ask (c.st.map mkSta) ds t).out⟩ c.st.length := by
            show slotR _ _ _ _ = _
            unfold slotR
            rw [r3]
          rw [this]
          exact ⟨Y.cm.bump _, Y.d, Y.out.grow (Grow.bump _ _), Y.lo.1, Y.lo.2.1, Nat.le_trans Y.lo.2.2 (Nat.le_add_right _ _)⟩
        · have : t = c.slots.toNat := by omega
          subst this
          simp [e5, e8, e44, e45, hslots]
          exact ⟨d, out, X.cm.bump _, X.d, X.out.grow (Grow.bump _ _), X.lo.1, X.lo.2.1, Nat.le_trans X.lo.2.2 (Nat.le_add_right _ _)⟩)
    obtain ⟨rfl, e5, e8, d, out, X⟩ := hp
    have hlx := (rok c.slots.toNat).2.2.1
    generalize runR c.h c.ask (c.st.map mkSta) ds c.slots.toNat = x at X hlx
    have xr := X.cm.rw
    have x4 := X.cm.c4
    rw [hlx] at x4
    have hl70 : lenA Tryd.prog 70 (.own aid 0 c.st.length 12) = some (.int .i64 c.st.length) := by simp [lenA]
    have own70 : ∀ q : Nat, q < c.st.length → indexAddrA Tryd.prog 70 (.own aid 0 c.st.length 12) (.int .i64 q) = some (.ptr aid (q * 12)) := fun q hq => by simp [indexAddrA, hq]
    simp [e5, e8, xr, x4, hl70]
    generalize hl' : cCode C _ _ _ (.loop _) _ = r
    obtain ⟨e, s3, rfl, he, hp⟩ := loop_rule hl' (fun q s => s.env 8 = .ptr cid 0 ∧ s.env 62 = .int .i64 c.st.length ∧ Grow s2.mem s.mem ∧
        ∃ i, i + q = c.st.length ∧ s.env 63 = .int .i64 (i : Nat) ∧ App eCon 7 (s.env 5) ((x.l.take i).map (·.c)) s2.mem.next s.mem)
      (fun e s => e = .exit 4 ∧ s.env 8 = .ptr cid 0 ∧ Grow s2.mem s.mem ∧ App eCon 7 (s.env 5) (x.l.map (·.c)) s2.mem.next s.mem) c.st.length (by omega) (by
        refine ⟨by simp [e8], by simp, Grow.bump _ _, 0, by simp, by simp, ?_⟩
        simpa [e5] using App.nil) (by
        rintro q s ⟨e8, e62, hg, i, hiq, e63, happ⟩
        have hcs := X.cm.grow hg
        have hm2 := hcs.rw
        have ma := hcs.st.rw
        have d4 := hcs.c4
        rw [hlx] at d4
        by_cases hi : i < c.st.length
        · have hil : i < x.l.length := by omega
          have old := hcs.st.cell i hil
          have f0 : s.mem.cell aid (i * 12) = some (.int .u8 x.l[i].c.b.cat) := old 0 (by omega)
          have f1 : s.mem.cell aid (i * 12 + 1) = some (.int .i64 (aft x.l[i].c.b.cat x.l[i].c.b.t)) := old 1 (by omega)
          have f2 : s.mem.cell aid (i * 12 + 2) = some (.int .i64 x.l[i].c.b.cnt) := old 2 (by omega)
          have f3 : s.mem.cell aid (i * 12 + 3) = some (.int .i64 x.l[i].c.b.t) := old 3 (by omega)
          have f4 : s.mem.cell aid (i * 12 + 4) = some (.int .i64 x.l[i].c.frames) := old 4 (by omega)
          have f5 : s.mem.cell aid (i * 12 + 5) = some (.int .i64 x.l[i].c.air) := old 5 (by omega)
          have f6 : s.mem.cell aid (i * 12 + 6) = some (.int .i64 x.l[i].c.to) := old 6 (by omega)
          have hfr : ∀ n, s.mem.mode (s.mem.next + n) = .dead := fun n => hcs.fresh _ (by omega)
          have wc := hwc i hi
          obtain ⟨inf, i1, i2, i3⟩ := inf53
          obtain ⟨m3, a1, a2, a3, a4, a5⟩ := App.push (P := Tryd.prog) (t := 26) eCon_len Tryd.underlying26 i1 i2 i3 zc53 rfl (by omega) happ hcs.fresh hg.next (by simp; omega) (Lay.alloc s.mem (eCon x.l[i].c) 12 15 7 (by omega)) (by omega)
          have hlow : ∀ id, id < s2.mem.next → m3.cell id = s.mem.cell id ∧ m3.mode id = s.mem.mode id ∧ m3.siz id = s.mem.siz id := fun id hid => a5 id (Nat.lt_of_lt_of_le hid hg.next) (fun n e => by
            rcases happ with ⟨_, h1⟩ | ⟨id', h1, h2, _⟩
            · rw [h1] at e; cases e
            · rw [h1] at e; cases e; omega)
          have g3 : Grow s2.mem m3 := ⟨by have := hg.next; omega, fun id hid => (hlow id hid).1.trans (hg.cell id hid), fun id hid => (hlow id hid).2.1.trans (hg.mode id hid), fun id hid => (hlow id hid).2.2.trans (hg.siz id hid), fun _ => a4⟩
          simp [eCon, Bk.enc] at a1
          simp [e8, e62, e63, hi, hm2, ma, d4, own70 i hi, f0, f1, f2, f3, f4, f5, f6, hfr, buildSliceA, zeros, List.range, List.range.loop, a1, wc]
          refine ⟨by omega, g3.trans (Grow.bump _ _), i + 1, by omega, by simp, ?_⟩
          have htk : (x.l.take (i + 1)).map (·.c) = (x.l.take i).map (·.c) ++ [x.l[i].c] := by
            rw [List.take_succ_eq_append_getElem hil, List.map_append]
            rfl
          have a6 := a2.grow (Grow.bump m3 2)
          rw [← htk] at a6
          simpa [List.map_take] using a6
        · have : i = c.st.length := by omega
          subst this
          rw [List.take_of_length_le (by omega)] at happ
          simp [e8, e62, e63]
          exact ⟨hg.trans (Grow.bump _ _), happ.grow (Grow.bump _ _)⟩)
    obtain ⟨rfl, e8, hg, happ⟩ := hp
    have hcs := X.cm.grow hg
    have hm2 := hcs.rw
    have d6 := hcs.c6
    simp [e8, hm2, d6]
    refine ⟨_, _, _, ⟨⟨rfl, rfl⟩, rfl⟩, ?_, x.l.map (·.c), ?_⟩
    · exact App.lo_zero ((X.out.grow hg).grow (Grow.bump _ _))
    · exact App.lo_zero (happ.grow (Grow.bump _ _))
  obtain ⟨o, nx, mo, h1, h2, l, h3⟩ := hbody
  obtain ⟨o', mo1, f1, f2, f3, f4⟩ := h2.frozen 5 eBur_len (fun x hx a ha m => by
    simp [eBur] at ha
    rcases ha with rfl | rfl | rfl | rfl | rfl <;> rfl) (Alive.refl mo)
  obtain ⟨nx', mo2, g1, g2, g3, g4⟩ := h3.frozen 5 eCon_len (fun x hx a ha m => by
    simp [eCon, Bk.enc] at ha
    rcases ha with rfl | rfl | rfl | rfl | rfl | rfl | rfl <;> rfl) f3
  refine ⟨o', nx', cCall_pure kd8 hz h1 ⟨mo2, ?_⟩, f2, f4⟩
  simp [f1, g1]
end Go.Proofs.YtmfdjipijifabaaDoor
end
section
/- Reception: the others, and who can receive. -/
set_option linter.unusedVariables false
set_option linter.unusedSimpArgs false
set_option linter.unnecessarySimpa false
set_option maxRecDepth 100000
namespace Go.Proofs.YtmfdjipijifabaaDoor
open Go.Ab

theorem c52 (k : Nat) (hk : 1 ≤ k) (a : AVal) (i : Nat) (ha : a = .nils ∨ a = .emp ∨ ∃ n cs, a = .imm n cs) (m : Mem) (hf : Fresh m) :
    cCall C T k 52 [a, .int .i64 i] m = some (.fn 70 [] [.ptr m.next 0, .ptr (m.next + 1) 0], { cell := fun id o => if id = m.next + 1 then [.int .i64 i][o]? else if id = m.next then [a][o]? else m.cell id o, mode := upd (upd m.mode m.next .rw) (m.next + 1) .rw, siz := upd (upd m.siz m.next 1) (m.next + 1) 1, next := m.next + 5 }) := by
  obtain ⟨k, rfl⟩ : ∃ j, k = j + 1 := ⟨k - 1, by omega⟩
  simp only [cCall, kd52]
  rw [body52]
  have h0 : m.mode m.next = .dead := hf _ (Nat.le_refl _)
  have h1 : m.mode (m.next + 1) = .dead := hf _ (by omega)
  rcases ha with rfl | rfl | ⟨n, cs, rfl⟩ <;> simp [codeOf, Tryd.f52, h0, h1]

theorem chkY70 : rangeChk Tryd.f70 2 = true := by kernel_rfl
theorem fn70 : Tryd.prog.funcs[70]? = some Tryd.f70 := by kernel_rfl

theorem SL.shape {α : Type} {enc : α → List AVal} {a : AVal} {l : List α} (h : SL enc a l) : a = .nils ∨ a = .emp ∨ ∃ n cs, a = .imm n cs := by
  rcases h with ⟨_, h | h⟩ | h
  · exact .inl h
  · exact .inr (.inl h)
  · exact .inr (.inr ⟨_, _, h⟩)

theorem grow2 (m : Mem) (cs ds es gs : List AVal) (p q a b x y n : Nat) (hp : p < n) (hq : q < n) : Grow m { cell := fun i o => if i = m.next + p ∧ o < a then cs[o]? else if i = m.next + p then ds[o]? else if i = m.next + q ∧ o < b then es[o]? else if i = m.next + q then gs[o]? else m.cell i o, mode := upd (upd m.mode (m.next + q) .rw) (m.next + p) .rw, siz := upd (upd m.siz (m.next + q) x) (m.next + p) y, next := m.next + n } := by
  refine ⟨Nat.le_add_right _ _, fun id h => ?_, fun id h => ?_, fun id h => ?_, fun h id hid => ?_⟩
  · funext o
    show (if _ then _ else _) = _
    rw [if_neg (by omega), if_neg (by omega), if_neg (by omega), if_neg (by omega)]
  · show upd (upd _ _ _) _ _ id = _
    rw [upd, if_neg (by omega), upd, if_neg (by omega)]
  · show upd (upd _ _ _) _ _ id = _
    rw [upd, if_neg (by omega), upd, if_neg (by omega)]
  · have hid' : m.next + n ≤ id := hid
    show upd (upd _ _ _) _ _ id = _
    rw [upd, if_neg (by omega), upd, if_neg (by omega)]
    exact h id (by omega)

/-- The memory while the others are gone through. -/
structure K27 (w : Air) (a : AVal) (s : Sen) (lev : Int) (i j : Nat) (m : Mem) : Prop where
  h1 : Holds 1 (eAir w) m
  h2 : Holds 2 [.int .i64 j] m
  h3 : Holds 3 [.bool false] m
  h8 : Holds 8 (eSen s) m
  h18 : Holds 18 [.int .i64 lev] m
  h42 : Holds 42 [a] m
  h43 : Holds 43 [.int .i64 i] m
theorem K27.grow {w : Air} {a : AVal} {s : Sen} {lev : Int} {i j : Nat} {m m' : Mem} (h : K27 w a s lev i j m) (g : Grow m m') : K27 w a s lev i j m' :=
  ⟨h.h1.grow g, h.h2.grow g, h.h3.grow g, h.h8.grow g, h.h18.grow g, h.h42.grow g, h.h43.grow g⟩

theorem c27 (k : Nat) (w : Air) (hw : w.ok) (a : AVal) (l : List Sen) (ha : SL eSen a l) (hn : ∀ x ∈ l, 0 ≤ x.n ∧ x.n < w.rs.length) (hll : l.length < 2 ^ 20) (hza : ∀ m, freezeV 8 a m = some (a, m)) (i j : Nat) (hi : i < l.length) (hj : j < w.rs.length)
    (hk : 2 * w.rs.length + l.length + 80 ≤ k) (m : Mem) :
    cCall C T k 27 [.agg (eAir w), a, .int .i64 i, .int .i64 j] m = some (.bool (canW w l i j), m) := by
  refine pure_call kd27 (2 * w.rs.length + l.length + 79) hk (args' := [.agg (eAir w), a, .int .i64 i, .int .i64 j]) (by simp [eAir, hza]) fun k hk => ?_
  rw [body27]
  have hla := SL.len (P := Tryd.prog) Tryd.underlying46 ha
  have hax := SL.indexAddr (P := Tryd.prog) Tryd.underlying46 sz77 eSen_len ha (k := .i64) hi
  obtain ⟨hn1, hn2⟩ := hn l[i] (List.getElem_mem hi)
  obtain ⟨ni, hni⟩ : ∃ n : Nat, l[i].n = (n : Int) := ⟨l[i].n.toNat, by omega⟩
  have hni' : ni < w.rs.length := by omega
  have h51 := fun m => c51 k w hw ni j hni' hj (by omega) m
  have h6 := fun m => c6 k w hw ni j hni' hj (by omega) m
  have h52 := fun m hf => c52 k (by omega) a i (SL.shape ha) m hf
  simp only [eAir] at h51 h6
  have hcan : canW w l i j = (w.hear ni j && (decide (l[i].d ≤ w.lev ni j) && (List.range l.length).all fun k => !spoils w l i j k)) := by
    unfold canW
    rw [List.getElem?_eq_getElem hi]
    simp only [hni, Int.toNat_natCast]
  cases hh : w.hear ni j with
  | false =>
    rw [hh] at hcan h6
    simp [codeOf, Tryd.f27, eAir, hax, eSen, ld77, hni, h51, h6, hcan]
  | true =>
    rw [hh] at hcan h6
    by_cases hd : l[i].d ≤ w.lev ni j
    · have hd' : ¬ w.lev ni j < l[i].d := by omega
      rw [decide_eq_true hd] at hcan
      simp [codeOf, Tryd.f27, eAir, hax, eSen, ld77, hni, h51, h6, hd']
      generalize hM : Mem.mk _ _ _ _ = M
      have hMn : M.next = 42 := by rw [← hM]
      have hMf : Fresh M := by
        intro id hid
        rw [hMn] at hid
        rw [← hM]
        simp only [upd]
        rw [if_neg (by omega), if_neg (by omega), if_neg (by omega), if_neg (by omega), if_neg (by omega), m0_mode, if_neg (by intro h; have := h.1; simp at this; omega)]
      have hK : ∀ n, 5 ≤ n → K27 w a l[i] (w.lev ni j) i j { cell := fun id o => if id = M.next + 1 then [.int .i64 i][o]? else if id = M.next then [a][o]? else M.cell id o, mode := upd (upd M.mode M.next .rw) (M.next + 1) .rw, siz := upd (upd M.siz M.next 1) (M.next + 1) 1, next := M.next + n } := by
        intro n hn5
        have fr : ∀ id, M.next + n ≤ id → upd (upd M.mode M.next .rw) (M.next + 1) .rw id = .dead := fun id hid => by
          simp only [upd]
          rw [if_neg (by omega), if_neg (by omega)]
          exact hMf id (by omega)
        rw [hMn] at fr ⊢
        refine ⟨⟨?_, ?_, ?_, fr⟩, ⟨?_, ?_, ?_, fr⟩, ⟨?_, ?_, ?_, fr⟩, ⟨?_, ?_, ?_, fr⟩, ⟨?_, ?_, ?_, fr⟩, ⟨?_, ?_, ?_, fr⟩, ⟨?_, ?_, ?_, fr⟩⟩ <;> (try (show _ < 42 + n; omega)) <;> (try (rw [← hM]; simp [upd]; done)) <;> (intro o ho; rw [← hM]; simp [eAir, eSen, hni] at ho ⊢)
        all_goals (try (intro hx; omega))
        all_goals (try omega)
      simp [h52 M hMf]
      generalize hl' : cCode C _ _ _ (.rangeFunc _ _ _ _) _ = r
      rw [range_eq (f := 70) (captured := [.ptr M.next 0, .ptr (M.next + 1) 0]) (by simp) fn70 chkY70] at hl'
      generalize hE : upd _ 48 _ = E at hl' ⊢
      have E4 : E 4 = .ptr 1 0 := by rw [← hE]; simp
      have E7 : E 7 = .ptr 2 0 := by rw [← hE]; simp
      have E8 : E 8 = .ptr 3 0 := by rw [← hE]; simp
      have E9 : E 9 = .ptr 8 0 := by rw [← hE]; simp
      have E10 : E 10 = .ptr 18 0 := by rw [← hE]; simp
      have hr : (∃ m', r = some (.normal, ⟨E, m'⟩) ∧ K27 w a l[i] (w.lev ni j) i j m' ∧ ∀ c, c < l.length → spoils w l i j c = false) ∨
          (∃ m', r = some (.ret, ⟨E, m'⟩) ∧ (m'.mode 3 = .rw ∧ m'.cell 3 0 = some (.bool false)) ∧ ∃ c, c < l.length ∧ spoils w l i j c = true) := by
        have b42 := (hK 9 (by omega)).h42.cell 0 (by simp)
        have m42 := (hK 9 (by omega)).h42.rw
        rw [hMn] at hl'
        simp [hMn] at b42 m42
        simp [codeOf, Tryd.f70, hMn, b42, m42, hla] at hl'
        generalize hl2 : yCode C _ _ _ (.loop _) _ = r2 at hl'
        obtain ⟨e, x, rfl, he, hp⟩ := yloop_rule hl2 (fun q x => x.p = none ∧ (x.y = [0] ∨ x.y = [17, 0]) ∧ x.st.env 1 = .ptr 42 0 ∧ x.st.env 2 = .ptr 43 0 ∧ x.st.env 6 = a ∧ x.st.env 7 = .int .i64 l.length ∧ K27 w a l[i] (w.lev ni j) i j x.st.mem ∧
            ∃ c, c + q = l.length ∧ x.st.env 8 = .int .i64 (c : Nat) ∧ ∀ c', c' < c → spoils w l i j c' = false)
          (fun e x => (e = .exit 0 ∧ x.p = none ∧ K27 w a l[i] (w.lev ni j) i j x.st.mem ∧ ∀ c, c < l.length → spoils w l i j c = false) ∨
            (e = .ret ∧ x.p = some .ret ∧ (x.st.mem.mode 3 = .rw ∧ x.st.mem.cell 3 0 = some (.bool false)) ∧ ∃ c, c < l.length ∧ spoils w l i j c = true)) l.length (by omega) (by
            refine ⟨by simp, by simp, by simp, by simp, by simp, by simp, ?_, 0, by simp, by simp, by simp⟩
            have := hK 8 (by omega)
            rw [hMn] at this
            exact this) (by
            rintro q ⟨st, y, p⟩ ⟨hp, hy, e1, e2, e6, e7, H, c, hcq, e8, hall⟩
            simp only [] at hp hy e1 e2 e6 e7 H e8
            subst hp
            rcases hy with rfl | rfl
            · skip
              by_cases hc : c < l.length
              · have hcx := SL.indexAddr (P := Tryd.prog) Tryd.underlying46 sz77 eSen_len ha (k := .i64) hc
                obtain ⟨hc1, hc2⟩ := hn l[c] (List.getElem_mem hc)
                obtain ⟨nc, hnc⟩ : ∃ n : Nat, l[c].n = (n : Int) := ⟨l[c].n.toNat, by omega⟩
                have hnc' : nc < w.rs.length := by omega
                have hfr : ∀ n, st.mem.mode (st.mem.next + n) = .dead := fun n => H.h1.fresh _ (by omega)
                have hlt := H.h43.lt
                have n1 : ∀ n, ¬ 1 = st.mem.next + n := fun n => by omega
                have n2 : ∀ n, ¬ 2 = st.mem.next + n := fun n => by omega
                have n3 : ∀ n, ¬ 3 = st.mem.next + n := fun n => by omega
                have n8 : ∀ n, ¬ 8 = st.mem.next + n := fun n => by omega
                have n18 : ∀ n, ¬ 18 = st.mem.next + n := fun n => by omega
                have n43 : ∀ n, ¬ 43 = st.mem.next + n := fun n => by omega
                have c10 := H.h1.cell 0 (by simp [eAir])
                have c11 := H.h1.cell 1 (by simp [eAir])
                have c20 := H.h2.cell 0 (by simp)
                have c30 := H.h3.cell 0 (by simp)
                have c80 := H.h8.cell 0 (by simp [eSen])
                have c81 := H.h8.cell 1 (by simp [eSen])
                have c82 := H.h8.cell 2 (by simp [eSen])
                have c83 := H.h8.cell 3 (by simp [eSen])
                have c180 := H.h18.cell 0 (by simp)
                have c430 := H.h43.cell 0 (by simp)
                simp [eAir, eSen, hni] at c10 c11 c20 c30 c80 c81 c82 c83 c180 c430
                have m1 := H.h1.rw
                have m2 := H.h2.rw
                have m3 := H.h3.rw
                have m8 := H.h8.rw
                have m18 := H.h18.rw
                have m43 := H.h43.rw
                have wc : IntKind.i64.wrap ((c : Int) + 1) = ((c + 1 : Nat) : Int) := IntWalk.i64_in _ (by omega)
                have step : spoils w l i j c = false → ∀ c', c' < c + 1 → spoils w l i j c' = false := fun hx c' hc' => by
                  rcases Nat.lt_or_ge c' c with h1 | h1
                  · exact hall c' h1
                  · rw [show c' = c by omega]; exact hx
                have hsp : spoils w l i j c = (decide (c ≠ i) && (ovl l[c] l[i] && (decide (nc = j) || decide (w.lev ni j < w.lev nc j + 100)))) := by
                  unfold spoils
                  rw [List.getElem?_eq_getElem hc, List.getElem?_eq_getElem hi]
                  simp only [hni, hnc, Int.toNat_natCast]
                by_cases hci : c = i
                · subst hci
                  rw [decide_eq_false (by simp)] at hsp
                  simp [e1, e2, e6, e7, e8, hc, hcx, eSen, ld77, hfr, c430, m43, n43, wc]
                  exact ⟨by omega, H.grow (Grow.put st.mem _ _ _ _ 4 4 (by omega)), c + 1, by omega, by simp, step (by simpa using hsp)⟩
                · have hcz : ((c : Int) != i) = true := by
                    have : ¬ (c : Int) = i := by omega
                    simp [this]
                  rw [decide_eq_true hci] at hsp
                  have g50 := fun m => c50 k (by omega) l[c] l[i] m
                  have g51 := fun m => c51 k w hw nc j hnc' hj (by omega) m
                  have lr := lev_range hw hnc' hj
                  have w100 : IntKind.i64.wrap (w.lev nc j + 100) = w.lev nc j + 100 := IntWalk.i64_in _ (by omega)
                  have rc := (sl_imm eRad w.rs).indexAddr (P := Tryd.prog) Tryd.underlying30 sz63 eRad_len (k := .i64) hnc'
                  have rj := (sl_imm eRad w.rs).indexAddr (P := Tryd.prog) Tryd.underlying30 sz63 eRad_len (k := .i64) hj
                  have qc := (hw.rad _ (List.getElem_mem hnc')).2.2.2
                  have qj := (hw.rad _ (List.getElem_mem hj)).2.2.2
                  simp only [eSen, hni, hnc, eAir] at g50 g51
                  cases hov : ovl l[c] l[i] with
                  | false =>
                    rw [hov] at hsp g50
                    simp [e1, e2, e6, e7, e8, hc, hcx, eSen, ld77, hfr, c430, m43, n43, wc, hcz, roundF, setAll, E4, E7, E8, E9, E10, hnc, c80, c81, c82, c83, m8, n8, g50]
                    exact ⟨by omega, H.grow (grow2 st.mem _ _ _ _ 16 4 4 4 4 4 24 (by omega) (by omega)), c + 1, by omega, by simp, step (by simpa using hsp)⟩
                  | true =>
                    rw [hov] at hsp g50
                    by_cases hnj : nc = j
                    · rw [decide_eq_true hnj] at hsp
                      subst hnj
                      simp [e1, e2, e6, e7, e8, hc, hcx, eSen, ld77, hfr, c430, m43, n43, wc, hcz, roundF, setAll, E4, E7, E8, E9, E10, hnc, c80, c81, c82, c83, m8, n8, g50, m3, c30, n3, g51, c10, c11, c20, c180, m1, m2, m18, n1, n2, n18, rc, rj, qc, qj, ld63, ld3, eRad, w100]
                      exact ⟨c, hc, by simpa using hsp⟩
                    · rw [decide_eq_false hnj] at hsp
                      have hnz : ((nc : Int) == j) = false := by
                        have : ¬ (nc : Int) = j := by omega
                        simp [this]
                      by_cases hle : w.lev ni j < w.lev nc j + 100
                      · rw [decide_eq_true hle] at hsp
                        simp [e1, e2, e6, e7, e8, hc, hcx, eSen, ld77, hfr, c430, m43, n43, wc, hcz, roundF, setAll, E4, E7, E8, E9, E10, hnc, c80, c81, c82, c83, m8, n8, g50, m3, c30, n3, g51, c10, c11, c20, c180, m1, m2, m18, n1, n2, n18, rc, rj, qc, qj, ld63, ld3, eRad, w100, hnj, hnz, hle]
                        exact ⟨c, hc, by simpa using hsp⟩
                      · rw [decide_eq_false hle] at hsp
                        simp [e1, e2, e6, e7, e8, hc, hcx, eSen, ld77, hfr, c430, m43, n43, wc, hcz, roundF, setAll, E4, E7, E8, E9, E10, hnc, c80, c81, c82, c83, m8, n8, g50, m3, c30, n3, g51, c10, c11, c20, c180, m1, m2, m18, n1, n2, n18, rc, rj, qc, qj, ld63, ld3, eRad, w100, hnj, hnz, hle]
                        exact ⟨by omega, H.grow (grow2 st.mem _ _ _ _ 16 4 4 4 4 4 62 (by omega) (by omega)), c + 1, by omega, by simp, step (by simpa using hsp)⟩
              · have : c = l.length := by omega
                subst this
                simp [e1, e2, e6, e7, e8]
                exact ⟨H.grow (Grow.bump _ _), hall⟩
            · skip
              by_cases hc : c < l.length
              · have hcx := SL.indexAddr (P := Tryd.prog) Tryd.underlying46 sz77 eSen_len ha (k := .i64) hc
                obtain ⟨hc1, hc2⟩ := hn l[c] (List.getElem_mem hc)
                obtain ⟨nc, hnc⟩ : ∃ n : Nat, l[c].n = (n : Int) := ⟨l[c].n.toNat, by omega⟩
                have hnc' : nc < w.rs.length := by omega
                have hfr : ∀ n, st.mem.mode (st.mem.next + n) = .dead := fun n => H.h1.fresh _ (by omega)
                have hlt := H.h43.lt
                have n1 : ∀ n, ¬ 1 = st.mem.next + n := fun n => by omega
                have n2 : ∀ n, ¬ 2 = st.mem.next + n := fun n => by omega
                have n3 : ∀ n, ¬ 3 = st.mem.next + n := fun n => by omega
                have n8 : ∀ n, ¬ 8 = st.mem.next + n := fun n => by omega
                have n18 : ∀ n, ¬ 18 = st.mem.next + n := fun n => by omega
                have n43 : ∀ n, ¬ 43 = st.mem.next + n := fun n => by omega
                have c10 := H.h1.cell 0 (by simp [eAir])
                have c11 := H.h1.cell 1 (by simp [eAir])
                have c20 := H.h2.cell 0 (by simp)
                have c30 := H.h3.cell 0 (by simp)
                have c80 := H.h8.cell 0 (by simp [eSen])
                have c81 := H.h8.cell 1 (by simp [eSen])
                have c82 := H.h8.cell 2 (by simp [eSen])
                have c83 := H.h8.cell 3 (by simp [eSen])
                have c180 := H.h18.cell 0 (by simp)
                have c430 := H.h43.cell 0 (by simp)
                simp [eAir, eSen, hni] at c10 c11 c20 c30 c80 c81 c82 c83 c180 c430
                have m1 := H.h1.rw
                have m2 := H.h2.rw
                have m3 := H.h3.rw
                have m8 := H.h8.rw
                have m18 := H.h18.rw
                have m43 := H.h43.rw
                have wc : IntKind.i64.wrap ((c : Int) + 1) = ((c + 1 : Nat) : Int) := IntWalk.i64_in _ (by omega)
                have step : spoils w l i j c = false → ∀ c', c' < c + 1 → spoils w l i j c' = false := fun hx c' hc' => by
                  rcases Nat.lt_or_ge c' c with h1 | h1
                  · exact hall c' h1
                  · rw [show c' = c by omega]; exact hx
                have hsp : spoils w l i j c = (decide (c ≠ i) && (ovl l[c] l[i] && (decide (nc = j) || decide (w.lev ni j < w.lev nc j + 100)))) := by
                  unfold spoils
                  rw [List.getElem?_eq_getElem hc, List.getElem?_eq_getElem hi]
                  simp only [hni, hnc, Int.toNat_natCast]
                by_cases hci : c = i
                · subst hci
                  rw [decide_eq_false (by simp)] at hsp
                  simp [e1, e2, e6, e7, e8, hc, hcx, eSen, ld77, hfr, c430, m43, n43, wc]
                  exact ⟨by omega, H.grow (Grow.put st.mem _ _ _ _ 4 4 (by omega)), c + 1, by omega, by simp, step (by simpa using hsp)⟩
                · have hcz : ((c : Int) != i) = true := by
                    have : ¬ (c : Int) = i := by omega
                    simp [this]
                  rw [decide_eq_true hci] at hsp
                  have g50 := fun m => c50 k (by omega) l[c] l[i] m
                  have g51 := fun m => c51 k w hw nc j hnc' hj (by omega) m
                  have lr := lev_range hw hnc' hj
                  have w100 : IntKind.i64.wrap (w.lev nc j + 100) = w.lev nc j + 100 := IntWalk.i64_in _ (by omega)
                  have rc := (sl_imm eRad w.rs).indexAddr (P := Tryd.prog) Tryd.underlying30 sz63 eRad_len (k := .i64) hnc'
                  have rj := (sl_imm eRad w.rs).indexAddr (P := Tryd.prog) Tryd.underlying30 sz63 eRad_len (k := .i64) hj
                  have qc := (hw.rad _ (List.getElem_mem hnc')).2.2.2
                  have qj := (hw.rad _ (List.getElem_mem hj)).2.2.2
                  simp only [eSen, hni, hnc, eAir] at g50 g51
                  cases hov : ovl l[c] l[i] with
                  | false =>
                    rw [hov] at hsp g50
                    simp [e1, e2, e6, e7, e8, hc, hcx, eSen, ld77, hfr, c430, m43, n43, wc, hcz, roundF, setAll, E4, E7, E8, E9, E10, hnc, c80, c81, c82, c83, m8, n8, g50]
                    exact ⟨by omega, H.grow (grow2 st.mem _ _ _ _ 16 4 4 4 4 4 24 (by omega) (by omega)), c + 1, by omega, by simp, step (by simpa using hsp)⟩
                  | true =>
                    rw [hov] at hsp g50
                    by_cases hnj : nc = j
                    · rw [decide_eq_true hnj] at hsp
                      subst hnj
                      simp [e1, e2, e6, e7, e8, hc, hcx, eSen, ld77, hfr, c430, m43, n43, wc, hcz, roundF, setAll, E4, E7, E8, E9, E10, hnc, c80, c81, c82, c83, m8, n8, g50, m3, c30, n3, g51, c10, c11, c20, c180, m1, m2, m18, n1, n2, n18, rc, rj, qc, qj, ld63, ld3, eRad, w100]
                      exact ⟨c, hc, by simpa using hsp⟩
                    · rw [decide_eq_false hnj] at hsp
                      have hnz : ((nc : Int) == j) = false := by
                        have : ¬ (nc : Int) = j := by omega
                        simp [this]
                      by_cases hle : w.lev ni j < w.lev nc j + 100
                      · rw [decide_eq_true hle] at hsp
                        simp [e1, e2, e6, e7, e8, hc, hcx, eSen, ld77, hfr, c430, m43, n43, wc, hcz, roundF, setAll, E4, E7, E8, E9, E10, hnc, c80, c81, c82, c83, m8, n8, g50, m3, c30, n3, g51, c10, c11, c20, c180, m1, m2, m18, n1, n2, n18, rc, rj, qc, qj, ld63, ld3, eRad, w100, hnj, hnz, hle]
                        exact ⟨c, hc, by simpa using hsp⟩
                      · rw [decide_eq_false hle] at hsp
                        simp [e1, e2, e6, e7, e8, hc, hcx, eSen, ld77, hfr, c430, m43, n43, wc, hcz, roundF, setAll, E4, E7, E8, E9, E10, hnc, c80, c81, c82, c83, m8, n8, g50, m3, c30, n3, g51, c10, c11, c20, c180, m1, m2, m18, n1, n2, n18, rc, rj, qc, qj, ld63, ld3, eRad, w100, hnj, hnz, hle]
                        exact ⟨by omega, H.grow (grow2 st.mem _ _ _ _ 16 4 4 4 4 4 62 (by omega) (by omega)), c + 1, by omega, by simp, step (by simpa using hsp)⟩
              · have : c = l.length := by omega
                subst this
                simp [e1, e2, e6, e7, e8]
                exact ⟨H.grow (Grow.bump _ _), hall⟩)
        rcases hp with ⟨rfl, h1, h2, h3⟩ | ⟨rfl, h1, h2, h3⟩
        · simp [rangeEnd, h1] at hl'
          exact .inl ⟨_, hl'.symm, h2, h3⟩
        · simp [rangeEnd, h1] at hl'
          exact .inr ⟨_, hl'.symm, h2, h3⟩
      rcases hr with ⟨m', rfl, H, h3⟩ | ⟨m', rfl, ⟨h1, h2⟩, c, h3, h4⟩
      · have hcanT : canW w l i j = true := by
          rw [hcan]
          simp
          intro c hc
          exact h3 c hc
        have c30 := H.h3.cell 0 (by simp)
        have m3 := H.h3.rw
        simp at c30
        rw [hcanT]
        simp [E8, c30, m3]
      · have hcanF : canW w l i j = false := by
          rw [hcan]
          simp
          exact ⟨c, h3, h4⟩
        rw [hcanF]
        simp [E8, h1, h2]
    · have hd' : w.lev ni j < l[i].d := by omega
      rw [decide_eq_false hd] at hcan
      simp [codeOf, Tryd.f27, eAir, hax, eSen, ld77, hni, h51, h6, hcan, hd']
end Go.Proofs.YtmfdjipijifabaaDoor
end
section
/- Reception: who receives what. -/
set_option linter.unusedVariables false
set_option linter.unusedSimpArgs false
set_option linter.unnecessarySimpa false
set_option maxRecDepth 100000
namespace Go.Proofs.YtmfdjipijifabaaDoor
open Go.Ab

def recW (w : Air) (l : List Sen) (i : Nat) : List Nat := (List.range w.rs.length).filter (canW w l i)

theorem freezeL_apps {α : Type} {enc : α → List AVal} {sz lo : Nat} (d : Nat) (he : ∀ x, (enc x).length = sz) (hin : ∀ x : α, ∀ a ∈ enc x, ∀ m, freezeV (d + 1) a m = some (a, m)) {m : Mem} : ∀ (S : List AVal) (rows : List (List α)) (m2 : Mem), S.length = rows.length → (∀ p (hp : p < S.length) (hq : p < rows.length), App enc sz S[p] rows[p] lo m) → Alive m m2 →
    ∃ S' m', freezeL (freezeV (d + 2)) S m2 = some (S', m') ∧ S'.length = rows.length ∧ Alive m m' ∧ ∀ p (hp : p < S'.length) (hq : p < rows.length), SL enc S'[p] rows[p] := by
  intro S
  induction S with
  | nil =>
    intro rows m2 hl _ ha
    cases rows with
    | nil => exact ⟨[], m2, rfl, rfl, ha, fun p hp => by simp at hp⟩
    | cons r rows => simp at hl
  | cons s S ih =>
    intro rows m2 hl happ ha
    cases rows with
    | nil => simp at hl
    | cons r rows =>
      obtain ⟨a', m', f1, f2, f3, f4⟩ := (happ 0 (by simp) (by simp)).frozen d he (fun x _ a hax m => hin x a hax m) ha
      obtain ⟨S', m3, g1, g2, g3, g4⟩ := ih rows m' (by simpa using hl) (fun p hp hq => by
        have := happ (p + 1) (by simpa using hp) (by simpa using hq)
        simpa using this) f3
      refine ⟨a' :: S', m3, ?_, by simp [g2], g3, fun p hp hq => ?_⟩
      · simp only [List.getElem_cons_zero] at f1
        simp only [freezeL, f1, g1]
      · cases p with
        | zero => exact f2
        | succ p => simpa using g4 p (by simpa using hp) (by simpa using hq)

/-- The rows of receivers, in memory. -/
structure RowsM (w : Air) (oid : Nat) (S : List AVal) (rows : List (List Nat)) (m : Mem) : Prop where
  h1 : Holds 1 (eAir w) m
  len : S.length = rows.length
  lt : oid < m.next
  rw : m.mode oid = .rw
  siz : m.siz oid = rows.length
  one : 1 < oid
  cell : ∀ p (hp : p < S.length), m.cell oid p = some S[p]
  app : ∀ p (hp : p < S.length) (hq : p < rows.length), App eNat 1 S[p] rows[p] (oid + 1) m
  sep : ∀ p q (hp : p < S.length) (hq : q < S.length) id n n', S[p] = .own id 0 n 1 → S[q] = .own id 0 n' 1 → p = q

theorem zeros_one (z : AVal) (n : Nat) : zeros [z] n = List.replicate n z := by
  unfold zeros
  apply List.ext_getElem (by simp)
  intro i h1 h2
  simp [Nat.mod_one]

theorem makeSlice_one {P : Program} {t e : TypeId} {i : TypeInfo} {z : AVal} (hu : P.underlying t = some (.slice e)) (hi : P.info? e = some i) (hs : i.size = 1) (hb : i.bytes ≤ 100000) (hz : zeroA P e = some [z]) (k k' : IntKind) (n : Nat) (hn : n ≤ 2 ^ 20) (m : Mem) (new : Nat) (hd : m.mode new = .dead) :
    makeSliceA P t (.int k n) (.int k' n) m new = some (.own new 0 n 1, newBlk m new (List.replicate n z)) := by
  unfold makeSliceA
  simp only [hu, hi, hz]
  have : (n : Int) * (i.bytes : Int) ≤ 281474976710656 := by
    have h1 : n * i.bytes ≤ 2 ^ 20 * 100000 := Nat.mul_le_mul hn hb
    have h2 : ((n * i.bytes : Nat) : Int) ≤ ((2 ^ 20 * 100000 : Nat) : Int) := by exact_mod_cast h1
    rw [Int.natCast_mul] at h2
    omega
  rw [if_pos ⟨by omega, by omega, this, by omega, by rw [hs]; rfl, hd⟩]
  simp [hs, zeros_one]

theorem inf24 : ∃ i, Tryd.prog.info? 24 = some i ∧ i.size = 1 ∧ i.bytes ≤ 100000 := by
  obtain ⟨i, h1, h2, h3⟩ := inf_of (P := Tryd.prog) (t := 24) (a := 1) (b := 24) (by kernel_rfl)
  exact ⟨i, h1, h2, by omega⟩

theorem RowsM.own {w : Air} {oid : Nat} {S : List AVal} {rows : List (List Nat)} {m : Mem} (H : RowsM w oid S rows m) {p : Nat} (hp : p < S.length) {id n : Nat} (e : S[p] = .own id 0 n 1) : oid < id ∧ id < m.next := by
  have hq : p < rows.length := by rw [← H.len]; exact hp
  rcases H.app p hp hq with ⟨_, h⟩ | ⟨id', h, h2, h3, _⟩
  · rw [h] at e; cases e
  · rw [h] at e; cases e; omega

theorem RowsM.bump {w : Air} {oid : Nat} {S : List AVal} {rows : List (List Nat)} {m : Mem} (H : RowsM w oid S rows m) (n : Nat) : RowsM w oid S rows { cell := m.cell, mode := m.mode, siz := m.siz, next := m.next + n } :=
  ⟨H.h1.grow (Grow.bump _ _), H.len, Nat.lt_of_lt_of_le H.lt (Nat.le_add_right _ _), H.rw, H.siz, H.one, H.cell, fun p hp hq => (H.app p hp hq).grow (Grow.bump _ _), H.sep⟩

theorem RowsM.push {w : Air} {oid : Nat} {S : List AVal} {rows : List (List Nat)} {m M2 : Mem} (H : RowsM w oid S rows m) {p v pp p1 q : Nat} (hp : p < S.length) (hq : p < rows.length) (hl : rows[p].length < 2 ^ 20) (hL : Lay m pp q (eNat v) M2) (hp1 : p1 = pp + 1) (hpq : p1 < q) :
    ∃ m3, appendA Tryd.prog 24 24 S[p] (.own (m.next + pp) 0 1 1) M2 (m.next + p1) = some (.own (m.next + p1) 0 (rows[p].length + 1) 1, m3) ∧ m3.mode oid = .rw ∧ m3.cell oid p = some S[p] ∧
      ∀ n', RowsM w oid (S.set p (.own (m.next + p1) 0 (rows[p].length + 1) 1)) (rows.set p (rows[p] ++ [v])) { cell := fun i o => if i = oid ∧ p ≤ o ∧ o < p + 1 then [.own (m.next + p1) 0 (rows[p].length + 1) 1][o - p]? else m3.cell i o, mode := m3.mode, siz := m3.siz, next := m3.next + n' } := by
  subst hp1
  obtain ⟨inf, i1, i2, i3⟩ := inf3
  have h1 := H.one
  have hlt := H.lt
  obtain ⟨m3, a1, a2, a3, a4, a5⟩ := App.push (P := Tryd.prog) (t := 24) eNat_len Tryd.underlying24 i1 i2 (by omega) zc3 rfl (by omega) (H.app p hp hq) H.h1.fresh (by omega) hl hL hpq
  have low : ∀ id, id ≤ oid → m3.cell id = m.cell id ∧ m3.mode id = m.mode id ∧ m3.siz id = m.siz id := fun id hid => a5 id (by omega) (fun n e => by have := H.own hp e; omega)
  obtain ⟨o1, o2, o3⟩ := low oid (Nat.le_refl _)
  obtain ⟨b1, b2, b3⟩ := low 1 (by omega)
  refine ⟨m3, a1, by rw [o2]; exact H.rw, by rw [o1]; exact H.cell p hp, fun n' => ?_⟩
  have hh := H.h1
  refine ⟨⟨?_, by show m3.mode 1 = .rw; rw [b2]; exact hh.rw, fun o ho => ?_, fun id hid => ?_⟩, by simp [H.len], ?_, by show m3.mode oid = .rw; rw [o2]; exact H.rw, by show m3.siz oid = _; rw [o3, H.siz]; simp, h1, fun r hr => ?_, fun r hr hr' => ?_, fun r r' hr hr' id n n' e e' => ?_⟩
  · show 1 < m3.next + n'; omega
  · show (if _ then _ else _) = _
    rw [if_neg (by omega), b1]
    exact hh.cell o ho
  · have : m3.next + n' ≤ id := hid
    exact a4 id (by omega)
  · show oid < m3.next + n'; omega
  · rw [List.length_set] at hr
    by_cases hrp : r = p
    · subst hrp
      rw [List.getElem_set_self]
      show (if _ then _ else _) = _
      rw [if_pos ⟨rfl, by omega, by omega⟩]
      simp
    · rw [List.getElem_set_ne (fun e => hrp e.symm)]
      show (if _ then _ else _) = _
      rw [if_neg (by omega), o1]
      exact H.cell r hr
  · rw [List.length_set] at hr hr'
    by_cases hrp : r = p
    · subst hrp
      rw [List.getElem_set_self, List.getElem_set_self]
      refine App.same (m := m3) a2 (Nat.le_add_right _ _) fun id n e hid hlo => ⟨?_, rfl, rfl⟩
      funext o
      show (if _ then _ else _) = _
      rw [if_neg (by omega)]
    · rw [List.getElem_set_ne (fun e => hrp e.symm), List.getElem_set_ne (fun e => hrp e.symm)]
      refine App.same (m := m) (H.app r hr hr') (by show m.next ≤ m3.next + n'; omega) fun id n e hid hlo => ?_
      obtain ⟨d1, d2, d3⟩ := a5 id hid (fun n'' e' => hrp (H.sep r p hr hp id n n'' e e'))
      refine ⟨?_, d2, d3⟩
      funext o
      show (if _ then _ else _) = _
      rw [if_neg (by omega), d1]
  · rw [List.length_set] at hr hr'
    by_cases h2 : r = p
    · by_cases h3 : r' = p
      · rw [h2, h3]
      · subst h2
        rw [List.getElem_set_self] at e
        rw [List.getElem_set_ne (fun e => h3 e.symm)] at e'
        cases e
        have hr2 : r' < S.length := by simpa using hr'
        have := H.own hr2 e'
        omega
    · by_cases h3 : r' = p
      · subst h3
        rw [List.getElem_set_self] at e'
        rw [List.getElem_set_ne (fun e => h2 e.symm)] at e
        cases e'
        have hr2 : r < S.length := by simpa using hr
        have := H.own hr2 e
        omega
      · rw [List.getElem_set_ne (fun e => h2 e.symm)] at e
        rw [List.getElem_set_ne (fun e => h3 e.symm)] at e'
        exact H.sep r r' hr hr' id n n' e e'

def rowsAt (w : Air) (l : List Sen) (i j : Nat) : List (List Nat) := (List.range l.length).map fun p => if p < i then recW w l p else if p = i then (List.range j).filter (canW w l i) else []
theorem rowsAt_len {w : Air} {l : List Sen} {i j : Nat} : (rowsAt w l i j).length = l.length := by simp [rowsAt]
theorem rowsAt_get {w : Air} {l : List Sen} {i j p : Nat} (hp : p < l.length) : (rowsAt w l i j)[p]'(by rw [rowsAt_len]; exact hp) = if p < i then recW w l p else if p = i then (List.range j).filter (canW w l i) else [] := by simp [rowsAt]
theorem rowsAt_next {w : Air} {l : List Sen} {i : Nat} : rowsAt w l i w.rs.length = rowsAt w l (i + 1) 0 := by
  unfold rowsAt
  apply List.map_congr_left
  intro p _
  by_cases h1 : p < i
  · rw [if_pos h1, if_pos (by omega)]
  · by_cases h2 : p = i
    · subst h2
      rw [if_neg h1, if_pos rfl, if_pos (by omega)]
      rfl
    · rw [if_neg h1, if_neg h2, if_neg (by omega)]
      split <;> simp
theorem rowsAt_skip {w : Air} {l : List Sen} {i j : Nat} (h : canW w l i j = false) : rowsAt w l i (j + 1) = rowsAt w l i j := by
  unfold rowsAt
  rw [range_filter, h]
  simp
theorem rowsAt_push {w : Air} {l : List Sen} {i j : Nat} (hi : i < l.length) (h : canW w l i j = true) : rowsAt w l i (j + 1) = (rowsAt w l i j).set i ((rowsAt w l i j)[i]'(by rw [rowsAt_len]; exact hi) ++ [j]) := by
  apply List.ext_getElem (by simp [rowsAt])
  intro p h1 h2
  have hp : p < l.length := by simpa [rowsAt] using h1
  rw [rowsAt_get hp]
  by_cases hpi : p = i
  · subst hpi
    rw [List.getElem_set_self, rowsAt_get hp, if_neg (by omega), if_pos rfl, if_neg (by omega), if_pos rfl, range_filter, h]
    simp
  · rw [List.getElem_set_ne (fun e => hpi e.symm), rowsAt_get hp, if_neg (show ¬ p = i from hpi)]
    rw [if_neg hpi]

theorem c11 (k : Nat) (w : Air) (hw : w.ok) (a : AVal) (l : List Sen) (ha : SL eSen a l) (hl : SenOk w l) (h0 : 0 < l.length) (hza : ∀ m, freezeV 8 a m = some (a, m))
    (hk : 4 * w.rs.length + 3 * l.length + 200 ≤ k) (args : List AVal) (m m1 : Mem) (hz : freezeL (freezeV 8) args m = some ([.agg (eAir w), a, .nils], m1)) :
    ∃ S : List AVal, cCall C T k 11 args m = some (.tup [.imm l.length S, .int .i64 0], m1) ∧ S.length = l.length ∧ ∀ i (hi : i < S.length), SL eNat S[i] (recW w l i) := by
  obtain ⟨k, rfl⟩ : ∃ j, k = j + 1 := ⟨k - 1, by omega⟩
  have hla := SL.len (P := Tryd.prog) Tryd.underlying46 ha
  have h26 := fun m => c26 k w hw a l ha hl hza (by omega) m
  have hmost := hl.most
  have hwm := hw.most
  have hln : (l.length : Int) ≤ 64 := by omega
  have lr := (sl_imm eRad w.rs).len (P := Tryd.prog) Tryd.underlying30
  have hbody : ∃ S oid mo, cBody C (cCall C T k) (T 11) k 11 [.agg (eAir w), a, .nils] C.m0 = some (.tup [.own oid 0 l.length 1, .int .i64 0], mo) ∧ RowsM w oid S ((List.range l.length).map (recW w l)) mo := by
    rw [body11]
    simp only [eAir] at h26
    obtain ⟨inf, i1, i2, i3⟩ := inf24
    have hmk := fun m new hd => makeSlice_one (P := Tryd.prog) (t := 31) Tryd.underlying31 i1 i2 i3 zc24 .i64 .i64 l.length (by omega) m new hd
    simp [codeOf, Tryd.f11, eAir, h26, hla, hmk]
    generalize hl' : cCode C _ _ _ (.loop _) _ = r
    obtain ⟨e, s', rfl, he, hp⟩ := loop_rule hl' (fun q s => s.env 1 = a ∧ s.env 2 = .nils ∧ s.env 3 = .ptr 1 0 ∧ s.env 7 = .int .i64 0 ∧ s.env 9 = .own 12 0 l.length 1 ∧ s.env 22 = a ∧ s.env 23 = .int .i64 l.length ∧
        ∃ i S cnt, i + q = l.length ∧ s.env 24 = .int .i64 (i : Nat) ∧ s.env 10 = .int .i64 (cnt : Nat) ∧ cnt ≤ i * w.rs.length ∧ RowsM w 12 S (rowsAt w l i 0) s.mem)
      (fun e s => e = .exit 0 ∧ s.env 9 = .own 12 0 l.length 1 ∧ ∃ S, RowsM w 12 S (rowsAt w l l.length 0) s.mem) l.length (by omega) (by
        refine ⟨by simp, by simp, by simp, by simp, by simp, by simp, by simp, 0, List.replicate l.length .nils, 0, by simp, by simp, by simp, by simp, ?_⟩
        generalize hM : St.mem _ = M
        simp only [] at hM
        have hfr : Fresh M := by
          intro id hid
          rw [← hM] at hid ⊢
          simp only [] at hid
          simp only [newBlk, upd]
          rw [if_neg (by omega), if_neg (by omega), m0_mode, if_neg (by intro h; have := h.1; simp at this; omega)]
        refine ⟨⟨by rw [← hM]; simp, by rw [← hM]; simp [newBlk, upd], fun o ho => by rw [← hM]; simp [newBlk, eAir], hfr⟩, by simp [rowsAt], by rw [← hM]; simp, by rw [← hM]; simp [newBlk, upd], by rw [← hM]; simp [newBlk, upd, rowsAt], by omega, fun p hp => ?_, fun p hp hq => ?_, fun p q hp hq id n n' e => ?_⟩
        · simp only [List.length_replicate] at hp
          rw [← hM]
          simp [newBlk, hp]
        · have hp' : p < l.length := by simpa using hp
          rw [rowsAt_get hp']
          refine .inl ⟨?_, by simp⟩
          rw [if_neg (by omega)]
          split <;> simp
        · simp at e) (by
        rintro q s ⟨e1, e2, e3, e7, e9, e22, e23, i, S, cnt, hiq, e24, e10, hcnt, H⟩
        by_cases hi : i < l.length
        · have c10 := H.h1.cell 0 (by simp [eAir])
          have c11 := H.h1.cell 1 (by simp [eAir])
          simp [eAir] at c10 c11
          have m1 := H.h1.rw
          have wi : IntKind.i64.wrap ((i : Int) + 1) = ((i + 1 : Nat) : Int) := IntWalk.i64_in _ (by omega)
          simp [e1, e2, e3, e7, e9, e22, e23, e24, e10, hi, c10, m1, lr]
          generalize hl2 : cCode C _ _ _ (.loop _) _ = r2
          obtain ⟨e, s2, rfl, he, hp⟩ := loop_rule hl2 (fun q s => s.env 1 = a ∧ s.env 2 = .nils ∧ s.env 3 = .ptr 1 0 ∧ s.env 7 = .int .i64 0 ∧ s.env 9 = .own 12 0 l.length 1 ∧ s.env 22 = a ∧ s.env 23 = .int .i64 l.length ∧ s.env 24 = .int .i64 (i : Nat) ∧ s.env 11 = .int .i64 (i : Nat) ∧ s.env 29 = .int .i64 w.rs.length ∧
              ∃ j S cnt, j + q = w.rs.length ∧ s.env 30 = .int .i64 (j : Nat) ∧ s.env 10 = .int .i64 (cnt : Nat) ∧ cnt ≤ i * w.rs.length + j ∧ RowsM w 12 S (rowsAt w l i j) s.mem)
            (fun e s => e = .exit 2 ∧ s.env 1 = a ∧ s.env 2 = .nils ∧ s.env 3 = .ptr 1 0 ∧ s.env 7 = .int .i64 0 ∧ s.env 9 = .own 12 0 l.length 1 ∧ s.env 22 = a ∧ s.env 23 = .int .i64 l.length ∧ s.env 24 = .int .i64 (i : Nat) ∧
              ∃ S cnt, s.env 10 = .int .i64 (cnt : Nat) ∧ cnt ≤ i * w.rs.length + w.rs.length ∧ RowsM w 12 S (rowsAt w l i w.rs.length) s.mem) w.rs.length (by omega) (by
              refine ⟨by simp [e1], by simp [e2], by simp [e3], by simp [e7], by simp [e9], by simp [e22], by simp [e23], by simp [e24], by simp, by simp, 0, S, cnt, by simp, by simp, by simp [e10], by omega, H.bump _⟩) (by
              rintro q s ⟨e1, e2, e3, e7, e9, e22, e23, e24, e11, e29, j, S, cnt, hjq, e30, e10, hcnt, H⟩
              by_cases hj : j < w.rs.length
              · have c10 := H.h1.cell 0 (by simp [eAir])
                have c11 := H.h1.cell 1 (by simp [eAir])
                simp [eAir] at c10 c11
                have m1 := H.h1.rw
                have m12 := H.rw
                have hil : i * w.rs.length ≤ 64 * 32 := Nat.mul_le_mul (by omega) (by omega)
                have wj : IntKind.i64.wrap ((j : Int) + 1) = ((j + 1 : Nat) : Int) := IntWalk.i64_in _ (by omega)
                have wn : IntKind.i64.wrap ((cnt : Int) + 1) = ((cnt + 1 : Nat) : Int) := IntWalk.i64_in _ (by omega)
                have g27 := fun m => c27 k w hw a l ha (fun x hx => (hl.one x hx).1) (by omega) hza i j hi hj (by omega) m
                have hiS : i < S.length := by rw [H.len, rowsAt_len]; exact hi
                have hiR : i < (rowsAt w l i j).length := by rw [rowsAt_len]; exact hi
                have ci := H.cell i hiS
                have own31 : indexAddrA Tryd.prog 31 (.own 12 0 l.length 1) (.int .i64 i) = some (.ptr 12 i) := by simp [indexAddrA, hi]
                have hfr : ∀ n, s.mem.mode (s.mem.next + n) = .dead := fun n => H.h1.fresh _ (by omega)
                have hlt := H.lt
                have n12 : ∀ n, ¬ 12 = s.mem.next + n := fun n => by omega
                have ln23 : lenA Tryd.prog 23 .nils = some (.int .i64 0) := by simp [lenA]
                have hcn : (0 : Int) ≤ cnt := by omega
                simp only [eAir] at g27
                cases hcan : canW w l i j with
                | false =>
                  rw [hcan] at g27
                  simp [e1, e2, e3, e7, e9, e22, e23, e24, e11, e29, e30, e10, hj, c10, c11, m1, g27, wj]
                  exact ⟨by omega, j + 1, by omega, by simp, S, cnt, by simp, by omega, by rw [rowsAt_skip hcan]; exact H.bump _⟩
                | true =>
                  rw [hcan] at g27
                  have hrl : (rowsAt w l i j)[i].length < 2 ^ 20 := by
                    rw [rowsAt_get hi, if_neg (by omega), if_pos rfl]
                    exact Nat.lt_of_le_of_lt (List.length_filter_le _ _) (by simp; omega)
                  obtain ⟨m3, a1, a2, a3, a6⟩ := H.push hiS hiR hrl (Lay.alloc s.mem (eNat j) 27 31 1 (by omega)) (p1 := 28) (by omega) (by omega)
                  simp only [eNat] at a1
                  simp [e1, e2, e3, e7, e9, e22, e23, e24, e11, e29, e30, e10, hj, c10, c11, m1, g27, wj, wn, own31, m12, ci, buildSliceA, zeros, hfr, n12, ln23, hcn, a1, a2, a3]
                  exact ⟨by omega, j + 1, by omega, by simp, _, cnt + 1, by simp, by omega, by rw [rowsAt_push hi hcan]; exact a6 5⟩
              · have : j = w.rs.length := by omega
                subst this
                simp [e1, e2, e3, e7, e9, e22, e23, e24, e11, e29, e30, e10]
                exact ⟨S, cnt, by simp, hcnt, H.bump _⟩)
          obtain ⟨rfl, e1, e2, e3, e7, e9, e22, e23, e24, S, cnt, e10, hcnt, H⟩ := hp
          rw [rowsAt_next] at H
          simp [e1, e2, e3, e7, e9, e22, e23, e24, wi]
          refine ⟨_, _, ⟨rfl, rfl⟩, ?_⟩
          simp [e1, e2, e3, e7, e9, e22, e23]
          exact ⟨by omega, i + 1, by omega, by simp, S, cnt, e10, by rw [Nat.add_mul]; omega, H.bump _⟩
        · have : i = l.length := by omega
          subst this
          simp [e1, e9, e22, e23, e24]
          exact ⟨S, H.bump _⟩)
    obtain ⟨rfl, e9, S, H⟩ := hp
    have hrows : rowsAt w l l.length 0 = (List.range l.length).map (recW w l) := by
      unfold rowsAt
      apply List.map_congr_left
      intro p hp
      rw [if_pos (by simpa using hp)]
    rw [hrows] at H
    simp [e9]
    exact ⟨S, _, _, ⟨rfl, rfl⟩, H.bump _⟩
  obtain ⟨S, oid, mo, b1, b2⟩ := hbody
  have hlS : S.length = l.length := by rw [b2.len]; simp
  obtain ⟨S', m', f1, f2, f3, f4⟩ := freezeL_apps (enc := eNat) (sz := 1) (lo := oid + 1) 4 eNat_len (fun x a hax m => by
    simp [eNat] at hax
    subst hax
    rfl) S ((List.range l.length).map (recW w l)) { mo with mode := upd mo.mode oid .ro } b2.len b2.app ((Alive.refl mo).ro oid)
  have hcs : cellsAt mo oid 0 (l.length * 1) = some S := by
    have := cellsAt_of (m := mo) (id := oid) S 0 (fun o ho => by rw [Nat.zero_add, b2.cell o ho, List.getElem?_eq_getElem ho])
    rw [hlS] at this
    rwa [Nat.mul_one]
  refine ⟨S', cCall_pure kd11 hz b1 ⟨m', ?_⟩, by rw [f2]; simp, fun i hi => ?_⟩
  · simp only [fz_tup, freezeL]
    rw [freezeV, if_neg (by rw [b2.rw]; simp), hcs]
    simp only []
    rw [f1]
    rfl
  · have hi' : i < ((List.range l.length).map (recW w l)).length := by omega
    have := f4 i hi hi'
    simpa using this
end Go.Proofs.YtmfdjipijifabaaDoor
end
section
/- The transmissions on the air with one of them. -/
set_option linter.unusedVariables false
set_option linter.unusedSimpArgs false
set_option linter.unnecessarySimpa false
set_option maxRecDepth 100000
namespace Go.Proofs.YtmfdjipijifabaaDoor
open Go.Ab

def toSen (fr : Int) (b : Bur) : Sen := ⟨b.who, fr + b.start * 9, fr + b.fin * 9, -820⟩

/-- A list that a closure makes longer. -/
structure OnM (p q : Nat) (fr : Int) (lo : Nat) (s : AVal) (l : List Sen) (m : Mem) : Prop where
  low : p < lo ∧ q < lo ∧ lo ≤ m.next
  ne : p ≠ q
  pr : m.mode p = .rw
  pc : m.cell p 0 = some s
  qr : m.mode q = .rw
  qc : m.cell q 0 = some (.int .i64 fr)
  app : App eSen 4 s l lo m
  fresh : Fresh m

theorem OnM.grow {p q : Nat} {fr : Int} {lo : Nat} {s : AVal} {l : List Sen} {m m' : Mem} (h : OnM p q fr lo s l m) (g : Grow m m') : OnM p q fr lo s l m' := by
  obtain ⟨h1, h2, h3⟩ := h.low
  exact ⟨⟨h1, h2, Nat.le_trans h3 g.next⟩, h.ne, by rw [g.mode p (by omega)]; exact h.pr, by rw [g.cell p (by omega)]; exact h.pc, by rw [g.mode q (by omega)]; exact h.qr, by rw [g.cell q (by omega)]; exact h.qc, h.app.grow g, g.dead h.fresh⟩

theorem c25 (k : Nat) (hk : 1 ≤ k) (b : Bur) (p q lo : Nat) (fr : Int) (s : AVal) (l : List Sen) (hfr : 0 ≤ fr ∧ fr ≤ 2 ^ 40) (hb1 : 0 ≤ b.start ∧ b.start ≤ 100000) (hb2 : 0 ≤ b.fin ∧ b.fin ≤ 100000) (hl : l.length < 2 ^ 20) (m : Mem) (h : OnM p q fr lo s l m) :
    ∃ s' m', cCall C T k 25 [.agg (eBur b), .ptr p 0, .ptr q 0] m = some (.tup [], m') ∧ OnM p q fr lo s' (l ++ [toSen fr b]) m' := by
  obtain ⟨k, rfl⟩ : ∃ j, k = j + 1 := ⟨k - 1, by omega⟩
  simp only [cCall, kd25]
  rw [body25]
  obtain ⟨l1, l2, l3⟩ := h.low
  have hne := h.ne
  have pr := h.pr
  have pc := h.pc
  have qr := h.qr
  have qc := h.qc
  have hd0 : m.mode m.next = .dead := h.fresh _ (Nat.le_refl _)
  have hd : ∀ n, m.mode (m.next + n) = .dead := fun n => h.fresh _ (by omega)
  have np0 : ¬ p = m.next := by omega
  have nq0 : ¬ q = m.next := by omega
  have np : ∀ n, ¬ p = m.next + n := fun n => by omega
  have w1 : IntKind.i64.wrap (b.start * 9) = b.start * 9 := IntWalk.i64_in _ (by omega)
  have w2 : IntKind.i64.wrap (b.fin * 9) = b.fin * 9 := IntWalk.i64_in _ (by omega)
  have w3 : IntKind.i64.wrap (fr + b.start * 9) = fr + b.start * 9 := IntWalk.i64_in _ (by omega)
  have w4 : IntKind.i64.wrap (fr + b.fin * 9) = fr + b.fin * 9 := IntWalk.i64_in _ (by omega)
  simp [codeOf, Tryd.f25, eBur, hd0, hd, pr, pc, qr, qc, np0, nq0, np, w1, w2, w3, w4, buildSliceA, zeros, List.range, List.range.loop]
  generalize hM2 : Mem.mk _ _ _ _ = M2
  have n2 : M2.next = m.next + 18 := by rw [← hM2]
  have mo2 : ∀ id, id ≠ m.next → id ≠ m.next + 15 → M2.mode id = m.mode id := fun id h h' => by
    rw [← hM2]
    simp [upd, h, h']
  have lo2 : ∀ id, id < m.next → M2.cell id = m.cell id ∧ M2.mode id = m.mode id ∧ M2.siz id = m.siz id := fun id h => by
    have h1 : ¬ id = m.next := by omega
    have h2 : ¬ id = m.next + 15 := by omega
    rw [← hM2]
    refine ⟨?_, ?_, ?_⟩
    · funext o; simp [h1, h2]
    · simp [upd, h1, h2]
    · simp [upd, h1, h2]
  obtain ⟨inf, i1, i2, i3⟩ := inf77
  obtain ⟨m3, a1, a2, a3, a4, a5⟩ := App.more (P := Tryd.prog) (t := 46) eSen_len Tryd.underlying46 i1 i2 (by omega) zc77 rfl (by omega) (h.app.same (by omega) fun id n e hid hlo => lo2 id hid) (xid := m.next + 15) (new := m.next + 16) (v := toSen fr b)
    (by rw [← hM2]; simp) (fun o ho => by
      have h4 : o = 0 ∨ o = 1 ∨ o = 2 ∨ o = 3 := by omega
      rw [← hM2]
      rcases h4 with rfl | rfl | rfl | rfl <;> simp [eSen, toSen]) (by omega) (by rw [mo2 _ (by omega) (by omega)]; exact hd 16) (by omega) hl
  have ns : ∀ id, id < lo → ∀ n, s ≠ .own id 0 n 4 := fun id hid n e => by
    rcases h.app with ⟨_, q1⟩ | ⟨id', q1, q2, _⟩
    · rw [q1] at e; cases e
    · rw [q1] at e; cases e; omega
  obtain ⟨p1, p2, p3⟩ := a4 p (by omega) (ns p l1)
  obtain ⟨q1, q2, q3⟩ := a4 q (by omega) (ns q l2)
  have k1 : m3.mode p = .rw := by rw [p2, (lo2 p (by omega)).2.1]; exact pr
  have k2 : m3.cell p 0 = some s := by rw [p1, (lo2 p (by omega)).1]; exact pc
  simp [a1, k1, k2]
  refine ⟨_, ⟨l1, l2, by show lo ≤ m3.next; omega⟩, hne, k1, by simp, by rw [← qr, ← (lo2 q (by omega)).2.1, ← q2], ?_, App.same (m := m3) a2 (Nat.le_refl _) fun id n e hid hlo => ⟨?_, rfl, rfl⟩, fun id hid => ?_⟩
  · show (if _ then _ else _) = _
    rw [if_neg (by omega), q1, (lo2 q (by omega)).1]
    exact qc
  · funext o
    show (if _ then _ else _) = _
    rw [if_neg (by omega)]
  · have hid' : m3.next ≤ id := hid
    refine a5 id (by omega) ?_
    rw [mo2 id (by omega) (by omega)]
    exact h.fresh id (by omega)

/-- The transmissions that overlap with a, among the first c ones, after a itself. -/
def onL (bs : List Bur) (a : Bur) (i : Nat) (fr : Int) (c : Nat) : List Sen :=
  toSen fr a :: (List.range c).filterMap fun k => match bs[k]? with
    | some b => if k ≠ i ∧ b.start < a.fin ∧ a.start < b.fin then some (toSen fr b) else none
    | none => none
theorem onL_zero (bs : List Bur) (a : Bur) (i : Nat) (fr : Int) : onL bs a i fr 0 = [toSen fr a] := rfl
theorem onL_succ (bs : List Bur) (a : Bur) (i : Nat) (fr : Int) {c : Nat} (hc : c < bs.length) : onL bs a i fr (c + 1) = onL bs a i fr c ++ (if c ≠ i ∧ bs[c].start < a.fin ∧ a.start < bs[c].fin then [toSen fr bs[c]] else []) := by
  unfold onL
  rw [List.range_succ, List.filterMap_append, List.cons_append]
  congr 2
  simp only [List.filterMap_cons, List.filterMap_nil, List.getElem?_eq_getElem hc]
  split
  · rename_i h; rw [if_neg (by intro e; rw [if_pos e] at h; cases h)]
  · rename_i b h
    split at h
    · rename_i e; rw [if_pos e]; cases h; rfl
    · cases h
theorem onL_len (bs : List Bur) (a : Bur) (i : Nat) (fr : Int) (c : Nat) : (onL bs a i fr c).length ≤ c + 1 := by
  unfold onL
  simp only [List.length_cons]
  have := List.length_filterMap_le (fun k => match bs[k]? with
    | some b => if k ≠ i ∧ b.start < a.fin ∧ a.start < b.fin then some (toSen fr b) else none
    | none => none) (List.range c)
  simp at this ⊢
  exact this

theorem ld44 (a b c d e : AVal) (r : List AVal) (m : Mem) : loadA Tryd.prog 44 (.iptr (a :: b :: c :: d :: e :: r)) m = some (.agg [a, b, c, d, e]) := load_iptr_agg (cs := [a, b, c, d, e]) ag44 sz44 rfl

theorem c10 (k : Nat) (a : AVal) (bs : List Bur) (ha : SL eBur a bs) (i : Nat) (hi : i < bs.length) (fr : Int) (hfr : 0 ≤ fr ∧ fr ≤ 2 ^ 40) (hb : ∀ b ∈ bs, (0 ≤ b.start ∧ b.start ≤ 100000) ∧ (0 ≤ b.fin ∧ b.fin ≤ 100000)) (hl : bs.length < 2 ^ 16)
    (hk : bs.length + 10 ≤ k) (args : List AVal) (m m1 : Mem) (hz : freezeL (freezeV 8) args m = some ([a, .int .i64 i, .int .i64 fr], m1)) :
    ∃ o, cCall C T k 10 args m = some (o, m1) ∧ SL eSen o (onL bs bs[i] i fr bs.length) ∧ ∀ e m, freezeV (e + 1) o m = some (o, m) := by
  obtain ⟨k, rfl⟩ : ∃ j, k = j + 1 := ⟨k - 1, by omega⟩
  have hla := SL.len (P := Tryd.prog) Tryd.underlying40 ha
  have hax := SL.indexAddr (P := Tryd.prog) Tryd.underlying40 sz44 eBur_len ha (k := .i64) hi
  have hbi := hb bs[i] (List.getElem_mem hi)
  have hbody : ∃ o mo, cBody C (cCall C T k) (T 10) k 10 [a, .int .i64 i, .int .i64 fr] C.m0 = some (o, mo) ∧ App eSen 4 o (onL bs bs[i] i fr bs.length) 4 mo := by
    rw [body10]
    have hci' : eBur bs[i] = [.int .i64 bs[i].who, .int .i64 bs[i].start, .int .i64 bs[i].fin, .bool bs[i].asked, .bool bs[i].good] := rfl
    simp [codeOf, Tryd.f10, hax, hci', ld44]
    generalize hM : Mem.mk _ _ _ _ = M
    have hO : OnM 3 1 fr 4 .nils [] M := by
      have hf : Fresh M := by
        intro id hid
        rw [← hM] at hid ⊢
        simp only [] at hid
        simp only [upd]
        rw [if_neg (by omega), if_neg (by omega), m0_mode, if_neg (by intro h; have := h.1; simp at this; omega)]
      exact ⟨⟨by omega, by omega, by rw [← hM]; simp⟩, by omega, by rw [← hM]; simp [upd], by rw [← hM]; simp, by rw [← hM]; simp [upd], by rw [← hM]; simp, App.nil, hf⟩
    obtain ⟨s1, m2, g1, g2⟩ := c25 k (by omega) bs[i] 3 1 4 fr .nils [] hfr hbi.1 hbi.2 (by simp) M hO
    rw [List.nil_append, ← onL_zero bs bs[i] i fr] at g2
    rw [hci'] at g1
    simp [g1, hla]
    generalize hl' : cCode C _ _ _ (.loop _) _ = r
    obtain ⟨e, s', rfl, he, hp⟩ := loop_rule hl' (fun q s => s.env 0 = a ∧ s.env 1 = .int .i64 (i : Nat) ∧ s.env 7 = .ptr 3 0 ∧ s.env 8 = .fn 25 [] [.ptr 3 0, .ptr 1 0] ∧ s.env 18 = a ∧ s.env 19 = .int .i64 bs.length ∧
        ∃ c x, c + q = bs.length ∧ s.env 20 = .int .i64 (c : Nat) ∧ OnM 3 1 fr 4 x (onL bs bs[i] i fr c) s.mem)
      (fun e s => e = .exit 0 ∧ s.env 7 = .ptr 3 0 ∧ ∃ x, OnM 3 1 fr 4 x (onL bs bs[i] i fr bs.length) s.mem) bs.length (by omega) (by
        refine ⟨by simp, by simp, by simp, by simp, by simp, by simp, 0, s1, by simp, by simp, g2.grow (Grow.bump _ _)⟩) (by
        rintro q s ⟨e0, e1, e7, e8, e18, e19, c, x, hcq, e20, H⟩
        by_cases hc : c < bs.length
        · have hcx := SL.indexAddr (P := Tryd.prog) Tryd.underlying40 sz44 eBur_len ha (k := .i64) hc
          have hcc : eBur bs[c] = [.int .i64 bs[c].who, .int .i64 bs[c].start, .int .i64 bs[c].fin, .bool bs[c].asked, .bool bs[c].good] := rfl
          have hbc := hb bs[c] (List.getElem_mem hc)
          have hfrs : ∀ n, s.mem.mode (s.mem.next + n) = .dead := fun n => H.fresh _ (by omega)
          have wc : IntKind.i64.wrap ((c : Int) + 1) = ((c + 1 : Nat) : Int) := IntWalk.i64_in _ (by omega)
          have hsucc := onL_succ bs bs[i] i fr hc
          have hlen := onL_len bs bs[i] i fr c
          have noadd : ¬ (c ≠ i ∧ bs[c].start < bs[i].fin ∧ bs[i].start < bs[c].fin) → ∀ (M : Mem), Grow s.mem M → 0 < q ∧ ∃ c' : Nat, c' + (q - 1) = bs.length ∧ (c : Int) + 1 = (c' : Int) ∧ ∃ x : AVal, OnM 3 1 fr 4 x (onL bs bs[i] i fr c') M := fun h M g => by
            rw [if_neg h, List.append_nil] at hsucc
            exact ⟨by omega, c + 1, by omega, by omega, x, by rw [hsucc]; exact H.grow g⟩
          by_cases hci : c = i
          · have h1 := noadd (fun h => h.1 hci)
            have hcz : ((c : Int) != i) = false := by simp [hci]
            simp [e0, e1, e7, e8, e18, e19, e20, hc, hcx, hcc, ld44, hfrs, hcz, wc]
            exact h1 _ (Grow.put s.mem _ _ 4 32 5 5 (by omega))
          · have hcz : ((c : Int) != i) = true := by
              have : ¬ (c : Int) = i := by omega
              simp [this]
            by_cases hA : bs[c].start < bs[i].fin
            · by_cases hB : bs[i].start < bs[c].fin
              · rw [if_pos ⟨hci, hA, hB⟩] at hsucc
                simp [e0, e1, e7, e8, e18, e19, e20, hc, hcx, hax, hci', hcc, ld44, ld3, hfrs, hcz, wc, hA, hB]
                generalize hM2 : Mem.mk _ _ _ _ = M2
                have gM : Grow s.mem M2 := by
                  rw [← hM2]
                  exact Grow.put s.mem _ _ 4 33 5 5 (by omega)
                obtain ⟨s2, m3, k1, k2⟩ := c25 k (by omega) bs[c] 3 1 4 fr x _ hfr hbc.1 hbc.2 (by omega) M2 (H.grow gM)
                rw [← hsucc] at k2
                rw [hcc] at k1
                simp [k1, e0, e1, e7, e8, e18, e19, e20, wc]
                refine ⟨_, _, ⟨rfl, rfl⟩, ?_⟩
                simp [e0, e1, e7, e8, e18, e19]
                exact ⟨by omega, c + 1, by omega, by simp, s2, k2.grow (Grow.bump _ _)⟩
              · have h1 := noadd (fun h => hB h.2.2)
                simp [e0, e1, e7, e8, e18, e19, e20, hc, hcx, hax, hci', hcc, ld44, ld3, hfrs, hcz, wc, hA, hB]
                exact h1 _ (Grow.put s.mem _ _ 4 32 5 5 (by omega))
            · have h1 := noadd (fun h => hA h.2.1)
              simp [e0, e1, e7, e8, e18, e19, e20, hc, hcx, hax, hci', hcc, ld44, ld3, hfrs, hcz, wc, hA]
              exact h1 _ (Grow.put s.mem _ _ 4 32 5 5 (by omega))
        · have : c = bs.length := by omega
          subst this
          simp [e7, e19, e20]
          exact ⟨x, H.grow (Grow.bump _ _)⟩)
    obtain ⟨rfl, e7, x, H⟩ := hp
    have hr := H.pr
    have hc := H.pc
    simp [e7, hr, hc]
    exact ⟨_, _, ⟨rfl, rfl⟩, H.app.grow (Grow.bump _ _)⟩
  obtain ⟨o, mo, b1, b2⟩ := hbody
  obtain ⟨o', m', f1, f2, f3, f4⟩ := b2.frozen 6 eSen_len (fun x hx a ha m => by
    simp [eSen] at ha
    rcases ha with rfl | rfl | rfl | rfl <;> rfl) (Alive.refl mo)
  exact ⟨o', cCall_pure kd10 hz b1 ⟨m', f1⟩, f2, f4⟩
end Go.Proofs.YtmfdjipijifabaaDoor
end
section
/- Whether nothing disturbs a transmission at its receiver. -/
set_option linter.unusedVariables false
set_option linter.unusedSimpArgs false
set_option linter.unnecessarySimpa false
set_option maxRecDepth 100000
namespace Go.Proofs.YtmfdjipijifabaaDoor
open Go.Ab

def disturbs (h : List (List Bool)) (bs : List Bur) (a : Bur) (i to k : Nat) : Bool := match bs[k]? with
  | some b => decide (k ≠ i) && (decide (b.start < a.fin) && (decide (a.start < b.fin) && (decide (b.who = to) || hr h to b.who)))
  | none => false

theorem c12 (k : Nat) (c : Cts) (hc : c.ok) (a : AVal) (bs : List Bur) (ha : SL eBur a bs) (hza : ∀ m, freezeV 8 a m = some (a, m)) (i : Nat) (hi : i < bs.length) (hw : ∀ b ∈ bs, b.who < c.st.length) (hl : bs.length < 2 ^ 16) (to : Nat) (hto : (c.st[bs[i].who]'(hw _ (List.getElem_mem hi))).to = to)
    (hk : bs.length + 10 ≤ k) (m : Mem) :
    cCall C T k 12 [.agg (eCts c), a, .int .i64 i] m = some (.bool (hr c.h to bs[i].who && (List.range bs.length).all fun q => !disturbs c.h bs bs[i] i to q), m) := by
  refine pure_call kd12 (bs.length + 9) hk (args' := [.agg (eCts c), a, .int .i64 i]) (by simp [eCts, hza]) fun k hk => ?_
  rw [body12]
  have hla := SL.len (P := Tryd.prog) Tryd.underlying40 ha
  have hax := SL.indexAddr (P := Tryd.prog) Tryd.underlying40 sz44 eBur_len ha (k := .i64) hi
  have hwi := hw bs[i] (List.getElem_mem hi)
  have hsx := (sl_imm eCon c.st).indexAddr (P := Tryd.prog) Tryd.underlying26 sz53 eCon_len (k := .i64) hwi
  have htl : to < c.st.length := by rw [← hto]; exact (hc.one _ hwi).2.2.2.1
  have hth : to < c.h.length := by rw [hc.h]; exact htl
  have hrl := hc.row to hth
  have hbx := (sl_imm eBRow c.h).indexAddr (P := Tryd.prog) Tryd.underlying27 sz23 eBRow_len (k := .i64) hth
  have hrow : ∀ q : Nat, (hq : q < c.st.length) → indexAddrA Tryd.prog 23 (.imm c.h[to].length (c.h[to].flatMap eBool)) (.int .i64 q) = some (.iptr (eBool (c.h[to][q]'(by omega)) ++ (c.h[to].drop (q + 1)).flatMap eBool)) := fun q hq => (sl_imm eBool c.h[to]).indexAddr (P := Tryd.prog) Tryd.underlying23 sz4 eBool_len (k := .i64) (by omega)
  have hhr : ∀ q : Nat, (hq : q < c.st.length) → hr c.h to q = c.h[to][q]'(by omega) := fun q hq => by
    unfold hr
    have : q < c.h[to].length := by omega
    simp [hth, this]
  have hba : eBur bs[i] = [.int .i64 bs[i].who, .int .i64 bs[i].start, .int .i64 bs[i].fin, .bool bs[i].asked, .bool bs[i].good] := rfl
  rw [hhr _ hwi]
  cases h1 : c.h[to][bs[i].who]'(by omega) with
  | false =>
    simp [codeOf, Tryd.f12, eCts, hax, hba, ld44, ld3, hsx, eCon, Bk.enc, hto, hbx, eBRow, load_iptr_one ag23 sz23, hrow _ hwi, eBool, load_iptr_one ag4 sz4, h1]
  | true =>
    simp [codeOf, Tryd.f12, eCts, hax, hba, ld44, ld3, hsx, eCon, Bk.enc, hto, hbx, eBRow, load_iptr_one ag23 sz23, hrow _ hwi, eBool, load_iptr_one ag4 sz4, h1, hla]
    generalize hl' : cCode C _ _ _ (.loop _) _ = r
    obtain ⟨e, s', rfl, he, hp⟩ := loop_rule hl' (fun q s => s.env 1 = a ∧ s.env 2 = .int .i64 (i : Nat) ∧ s.env 3 = .ptr 1 0 ∧ s.env 7 = .int .i64 (to : Nat) ∧ s.env 33 = a ∧ s.env 34 = .int .i64 bs.length ∧ Holds 1 (eCts c) s.mem ∧
        ∃ j, j + q = bs.length ∧ s.env 35 = .int .i64 (j : Nat) ∧ ∀ j', j' < j → disturbs c.h bs bs[i] i to j' = false)
      (fun e s => (e = .exit 0 ∧ ∀ j', j' < bs.length → disturbs c.h bs bs[i] i to j' = false) ∨ (e = .ret ∧ s.env 6 = .bool false ∧ ∃ j', j' < bs.length ∧ disturbs c.h bs bs[i] i to j' = true)) bs.length (by omega) (by
        refine ⟨by simp, by simp, by simp, by simp, by simp, by simp, ⟨by simp, by simp [upd], ?_, ?_⟩, 0, by simp, by simp, by simp⟩
        · intro o ho; simp [eCts]
        · intro i hi
          simp at hi
          show upd C.m0.mode 1 Md.rw i = .dead
          rw [upd, if_neg (by omega), m0_mode, if_neg (by intro h; have := h.1; simp at this; omega)]) (by
        rintro q s ⟨e1, e2, e3, e7, e33, e34, H, j, hjq, e35, hall⟩
        by_cases hj : j < bs.length
        · have hcx := SL.indexAddr (P := Tryd.prog) Tryd.underlying40 sz44 eBur_len ha (k := .i64) hj
          have hwj := hw bs[j] (List.getElem_mem hj)
          have hbj : eBur bs[j] = [.int .i64 bs[j].who, .int .i64 bs[j].start, .int .i64 bs[j].fin, .bool bs[j].asked, .bool bs[j].good] := rfl
          have hfrs : ∀ n, s.mem.mode (s.mem.next + n) = .dead := fun n => H.fresh _ (by omega)
          have wj : IntKind.i64.wrap ((j : Int) + 1) = ((j + 1 : Nat) : Int) := IntWalk.i64_in _ (by omega)
          have m1 := H.rw
          have c11 : s.mem.cell 1 1 = some (.imm c.h.length (c.h.flatMap eBRow)) := H.cell 1 (by simp [eCts])
          have hlt := H.lt
          have n1 : ∀ n, ¬ 1 = s.mem.next + n := fun n => by omega
          have hdj : disturbs c.h bs bs[i] i to j = (decide (j ≠ i) && (decide (bs[j].start < bs[i].fin) && (decide (bs[i].start < bs[j].fin) && (decide (bs[j].who = to) || c.h[to][bs[j].who]'(by omega))))) := by
            unfold disturbs
            rw [List.getElem?_eq_getElem hj]
            simp only [hhr _ hwj]
          have go : disturbs c.h bs bs[i] i to j = false → ∀ M : Mem, Grow s.mem M → 0 < q ∧ Holds 1 (eCts c) M ∧
              ∃ j', j' + (q - 1) = bs.length ∧ (j : Int) + 1 = (j' : Int) ∧ ∀ j'', j'' < j' → disturbs c.h bs bs[i] i to j'' = false := fun hx M g =>
            ⟨by omega, H.grow g, j + 1, by omega, by omega, fun c' hc' => by
              rcases Nat.lt_or_ge c' j with h1 | h1
              · exact hall c' h1
              · rw [show c' = j by omega]; exact hx⟩
          by_cases hji : j = i
          · rw [decide_eq_false (by simp [hji])] at hdj
            have hcz : ((j : Int) != i) = false := by simp [hji]
            simp [e1, e2, e3, e7, e33, e34, e35, hj, hcx, hbj, ld44, ld3, hfrs, wj, hcz]
            exact go (by simpa using hdj) _ (Grow.put s.mem _ _ 4 _ 5 5 (by omega))
          · rw [decide_eq_true hji] at hdj
            have hcz : ((j : Int) != i) = true := by
              have : ¬ (j : Int) = i := by omega
              simp [this]
            by_cases hA : bs[j].start < bs[i].fin
            · rw [decide_eq_true hA] at hdj
              by_cases hB : bs[i].start < bs[j].fin
              · rw [decide_eq_true hB] at hdj
                by_cases hT : bs[j].who = to
                · rw [decide_eq_true hT] at hdj
                  have hTz : ((bs[j].who : Int) == to) = true := by simp [hT]
                  simp [e1, e2, e3, e7, e33, e34, e35, hj, hcx, hbj, ld44, ld3, hfrs, wj, hcz, hax, hba, hA, hB, hTz, hT]
                  exact ⟨j, hj, by simpa using hdj⟩
                · rw [decide_eq_false hT] at hdj
                  have hTz : ((bs[j].who : Int) == to) = false := by
                    have : ¬ (bs[j].who : Int) = to := by omega
                    simp [this]
                  cases hR : c.h[to][bs[j].who]'(by omega) with
                  | false =>
                    rw [hR] at hdj
                    simp [e1, e2, e3, e7, e33, e34, e35, hj, hcx, hbj, ld44, ld3, hfrs, wj, hcz, hax, hba, hA, hB, hTz, hT, m1, c11, n1, hbx, eBRow, load_iptr_one ag23 sz23, hrow _ hwj, eBool, load_iptr_one ag4 sz4, hR]
                    exact go (by simpa using hdj) _ (Grow.put s.mem _ _ 4 _ 5 5 (by omega))
                  | true =>
                    rw [hR] at hdj
                    simp [e1, e2, e3, e7, e33, e34, e35, hj, hcx, hbj, ld44, ld3, hfrs, wj, hcz, hax, hba, hA, hB, hTz, hT, m1, c11, n1, hbx, eBRow, load_iptr_one ag23 sz23, hrow _ hwj, eBool, load_iptr_one ag4 sz4, hR]
                    exact ⟨j, hj, by simpa using hdj⟩
              · rw [decide_eq_false hB] at hdj
                simp [e1, e2, e3, e7, e33, e34, e35, hj, hcx, hbj, ld44, ld3, hfrs, wj, hcz, hax, hba, hA, hB]
                exact go (by simpa using hdj) _ (Grow.put s.mem _ _ 4 _ 5 5 (by omega))
            · rw [decide_eq_false hA] at hdj
              simp [e1, e2, e3, e7, e33, e34, e35, hj, hcx, hbj, ld44, ld3, hfrs, wj, hcz, hax, hba, hA]
              exact go (by simpa using hdj) _ (Grow.put s.mem _ _ 4 _ 5 5 (by omega))
        · have : j = bs.length := by omega
          subst this
          simp [e33, e34, e35]
          intro j' hj'
          exact hall j' hj')
    rcases hp with ⟨rfl, h2⟩ | ⟨rfl, h2, j, h3, h4⟩
    · have : ((List.range bs.length).all fun q => !disturbs c.h bs bs[i] i to q) = true := by
        rw [List.all_eq_true]
        intro j hj
        rw [h2 j (by simpa using hj)]
        rfl
      rw [this]
      simp
    · have : ((List.range bs.length).all fun q => !disturbs c.h bs bs[i] i to q) = false := by
        rw [List.all_eq_false]
        exact ⟨j, by simpa using h3, by rw [h4]; simp⟩
      rw [this]
      simp [h2]
end Go.Proofs.YtmfdjipijifabaaDoor
end

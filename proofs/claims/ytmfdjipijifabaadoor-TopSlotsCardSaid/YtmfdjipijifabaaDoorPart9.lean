/- Part 9 of a proof in many texts, put together: definitions and lemmas. The theorem stands in the last text; no conditions. -/
import Derived.Test.YtmfdjipijifabaaDoorPart8
section
/- Whether the medium is idle for a station when it begins to send. -/
set_option linter.unusedVariables false
set_option linter.unusedSimpArgs false
set_option linter.unnecessarySimpa false
set_option maxRecDepth 100000
namespace Go.Proofs.YtmfdjipijifabaaDoor
open Go.Ab

/-- The transmissions that go on when a begins, among the first c ones. -/
def polL (bs : List Bur) (a : Bur) (i : Nat) (fr : Int) (c : Nat) : List Sen :=
  (List.range c).filterMap fun k => match bs[k]? with
    | some b => if k ≠ i ∧ b.start < a.start ∧ a.start < b.fin then some (toSen fr b) else none
    | none => none
theorem polL_succ (bs : List Bur) (a : Bur) (i : Nat) (fr : Int) {c : Nat} (hc : c < bs.length) : polL bs a i fr (c + 1) = polL bs a i fr c ++ (if c ≠ i ∧ bs[c].start < a.start ∧ a.start < bs[c].fin then [toSen fr bs[c]] else []) := by
  unfold polL
  rw [List.range_succ, List.filterMap_append]
  congr 1
  simp only [List.filterMap_cons, List.filterMap_nil, List.getElem?_eq_getElem hc]
  split
  · rename_i h; rw [if_neg (by intro e; rw [if_pos e] at h; cases h)]
  · rename_i b h
    split at h
    · rename_i e; rw [if_pos e]; cases h; rfl
    · cases h
theorem polL_len (bs : List Bur) (a : Bur) (i : Nat) (fr : Int) (c : Nat) : (polL bs a i fr c).length ≤ c := by
  unfold polL
  have := List.length_filterMap_le (fun k => match bs[k]? with
    | some b => if k ≠ i ∧ b.start < a.start ∧ a.start < b.fin then some (toSen fr b) else none
    | none => none) (List.range c)
  simpa using this

/-- A pure function, called with what may be frozen to its arguments. -/
theorem pure_args {f : FuncId} (hk : C.kind f = .pure) {k : Nat} {args args' : List AVal} {m m1 m' m'' : Mem} {r : AVal} (h : cCall C T k f args' m' = some (r, m'')) (hs : freezeL (freezeV 8) args' m' = some (args', m')) (hz : freezeL (freezeV 8) args m = some (args', m1)) :
    cCall C T k f args m = some (r, m1) := by
  cases k with
  | zero => simp [cCall] at h
  | succ k =>
    simp only [cCall, hk, hs] at h
    simp only [cCall, hk, hz]
    split at h
    · rename_i r1 m2 hb
      split at h
      · rename_i r2 m3 hf
        cases h
        simp only [hf]
      · cases h
    · cases h

structure PolM (c : Cts) (w : Air) (s : AVal) (l : List Sen) (m : Mem) : Prop where
  h1 : Holds 1 (eCts c) m
  h2 : Holds 2 (eAir w) m
  app : App eSen 4 s l 3 m
theorem PolM.grow {c : Cts} {w : Air} {s : AVal} {l : List Sen} {m m' : Mem} (h : PolM c w s l m) (g : Grow m m') : PolM c w s l m' := ⟨h.h1.grow g, h.h2.grow g, h.app.grow g⟩

theorem c9 (k : Nat) (c : Cts) (hc : c.ok) (w : Air) (hw : w.ok) (hwc : w.rs.length = c.st.length) (a : AVal) (bs : List Bur) (ha : SL eBur a bs) (hza : ∀ m, freezeV 8 a m = some (a, m)) (i : Nat) (hi : i < bs.length) (hwh : ∀ b ∈ bs, b.who < c.st.length) (hl : bs.length < 2 ^ 16)
    (fr : Int) (hfr : 0 ≤ fr ∧ fr ≤ 2 ^ 39) (hb : ∀ b ∈ bs, (0 ≤ b.start ∧ b.start ≤ 100000) ∧ (0 ≤ b.fin ∧ b.fin ≤ 100000))
    (hpol : ∀ q (hq : q < bs.length), q ≠ i → bs[q].start < bs[i].start → bs[i].start < bs[q].fin → bs[q].who ≠ bs[i].who ∧ hr c.h bs[i].who bs[q].who = false) (hsen : SenOk w (polL bs bs[i] i fr bs.length))
    (hk : 2 * w.rs.length + 3 * bs.length + 200 ≤ k) (m : Mem) :
    cCall C T k 9 [.agg (eCts c), .agg (eAir w), a, .int .i64 i, .int .i64 fr] m = some (.bool (!(((polL bs bs[i] i fr bs.length).filter (senses w bs[i].who)).any fun x => decide (x.s ≤ fr + bs[i].start * 9) && decide (fr + bs[i].start * 9 < x.e))), m) := by
  refine pure_call kd9 (2 * w.rs.length + 3 * bs.length + 199) hk (args' := [.agg (eCts c), .agg (eAir w), a, .int .i64 i, .int .i64 fr]) (by simp [eCts, eAir, hza]) fun k hk => ?_
  rw [body9]
  have hla := SL.len (P := Tryd.prog) Tryd.underlying40 ha
  have hax := SL.indexAddr (P := Tryd.prog) Tryd.underlying40 sz44 eBur_len ha (k := .i64) hi
  have hwi := hwh bs[i] (List.getElem_mem hi)
  have hbi := hb bs[i] (List.getElem_mem hi)
  have hba : eBur bs[i] = [.int .i64 bs[i].who, .int .i64 bs[i].start, .int .i64 bs[i].fin, .bool bs[i].asked, .bool bs[i].good] := rfl
  have hth : bs[i].who < c.h.length := by rw [hc.h]; exact hwi
  have hrl := hc.row _ hth
  have hbx := (sl_imm eBRow c.h).indexAddr (P := Tryd.prog) Tryd.underlying27 sz23 eBRow_len (k := .i64) hth
  have hrow : ∀ q : Nat, (hq : q < c.st.length) → indexAddrA Tryd.prog 23 (.imm c.h[bs[i].who].length (c.h[bs[i].who].flatMap eBool)) (.int .i64 q) = some (.iptr (eBool (c.h[bs[i].who][q]'(by omega)) ++ (c.h[bs[i].who].drop (q + 1)).flatMap eBool)) := fun q hq => (sl_imm eBool c.h[bs[i].who]).indexAddr (P := Tryd.prog) Tryd.underlying23 sz4 eBool_len (k := .i64) (by omega)
  have hhr : ∀ q : Nat, (hq : q < c.st.length) → hr c.h bs[i].who q = c.h[bs[i].who][q]'(by omega) := fun q hq => by
    unfold hr
    have : q < c.h[bs[i].who].length := by omega
    simp [hth, this]
  simp [codeOf, Tryd.f9, eCts, eAir, hla]
  generalize hl' : cCode C _ _ _ (.loop _) _ = r
  obtain ⟨e, s', rfl, he, hp⟩ := loop_rule hl' (fun q s => s.env 2 = a ∧ s.env 3 = .int .i64 (i : Nat) ∧ s.env 4 = .int .i64 fr ∧ s.env 5 = .ptr 1 0 ∧ s.env 6 = .ptr 2 0 ∧ s.env 16 = a ∧ s.env 17 = .int .i64 bs.length ∧
      ∃ j, j + q = bs.length ∧ s.env 18 = .int .i64 (j : Nat) ∧ PolM c w (s.env 11) (polL bs bs[i] i fr j) s.mem)
    (fun e s => e = .exit 0 ∧ s.env 2 = a ∧ s.env 3 = .int .i64 (i : Nat) ∧ s.env 4 = .int .i64 fr ∧ s.env 6 = .ptr 2 0 ∧ PolM c w (s.env 11) (polL bs bs[i] i fr bs.length) s.mem) bs.length (by omega) (by
      refine ⟨by simp, by simp, by simp, by simp, by simp, by simp, by simp, 0, by simp, by simp, ?_⟩
      generalize hM : St.mem _ = M
      simp only [] at hM
      have hf : Fresh M := by
        intro id hid
        rw [← hM] at hid ⊢
        simp only [] at hid
        simp only [upd]
        rw [if_neg (by omega), if_neg (by omega), m0_mode, if_neg (by intro h; have := h.1; simp at this; omega)]
      refine ⟨⟨by rw [← hM]; simp, by rw [← hM]; simp [upd], fun o ho => by rw [← hM]; simp [eCts], hf⟩, ⟨by rw [← hM]; simp, by rw [← hM]; simp [upd], fun o ho => by rw [← hM]; simp [eAir], hf⟩, .inl ⟨rfl, by simp⟩⟩) (by
      rintro q s ⟨e2, e3, e4, e5, e6, e16, e17, j, hjq, e18, H⟩
      by_cases hj : j < bs.length
      · have hcx := SL.indexAddr (P := Tryd.prog) Tryd.underlying40 sz44 eBur_len ha (k := .i64) hj
        have hwj := hwh bs[j] (List.getElem_mem hj)
        have hbj := hb bs[j] (List.getElem_mem hj)
        have hbe : eBur bs[j] = [.int .i64 bs[j].who, .int .i64 bs[j].start, .int .i64 bs[j].fin, .bool bs[j].asked, .bool bs[j].good] := rfl
        have hfrs : ∀ n, s.mem.mode (s.mem.next + n) = .dead := fun n => H.h1.fresh _ (by omega)
        have wj : IntKind.i64.wrap ((j : Int) + 1) = ((j + 1 : Nat) : Int) := IntWalk.i64_in _ (by omega)
        have m1 := H.h1.rw
        have c11 : s.mem.cell 1 1 = some (.imm c.h.length (c.h.flatMap eBRow)) := H.h1.cell 1 (by simp [eCts])
        have hlt := H.h2.lt
        have n1 : ∀ n, ¬ 1 = s.mem.next + n := fun n => by omega
        have hsucc := polL_succ bs bs[i] i fr hj
        have hlen := polL_len bs bs[i] i fr j
        have go : ¬ (j ≠ i ∧ bs[j].start < bs[i].start ∧ bs[i].start < bs[j].fin) → ∀ M : Mem, Grow s.mem M → 0 < q ∧ ∃ j', j' + (q - 1) = bs.length ∧ (j : Int) + 1 = (j' : Int) ∧ PolM c w (s.env 11) (polL bs bs[i] i fr j') M := fun hx M g => by
          rw [if_neg hx, List.append_nil] at hsucc
          exact ⟨by omega, j + 1, by omega, by omega, by rw [hsucc]; exact H.grow g⟩
        by_cases hji : j = i
        · have hcz : ((j : Int) == i) = true := by simp [hji]
          simp [e2, e3, e4, e5, e6, e16, e17, e18, hj, hcx, hbe, ld44, ld3, hfrs, wj, hcz]
          exact go (fun h => h.1 hji) _ (Grow.put s.mem _ _ 4 _ 5 5 (by omega))
        · have hcz : ((j : Int) == i) = false := by
            have : ¬ (j : Int) = i := by omega
            simp [this]
          by_cases hA : bs[i].start ≤ bs[j].start
          · simp [e2, e3, e4, e5, e6, e16, e17, e18, hj, hcx, hbe, ld44, ld3, hfrs, wj, hcz, hax, hba, hA]
            exact go (fun h => by omega) _ (Grow.put s.mem _ _ 4 _ 5 5 (by omega))
          · by_cases hB : bs[j].fin ≤ bs[i].start
            · simp [e2, e3, e4, e5, e6, e16, e17, e18, hj, hcx, hbe, ld44, ld3, hfrs, wj, hcz, hax, hba, hA, hB]
              exact go (fun h => by omega) _ (Grow.put s.mem _ _ 4 _ 5 5 (by omega))
            · rw [if_pos ⟨hji, by omega, by omega⟩] at hsucc
              obtain ⟨p1, p2⟩ := hpol j hj hji (by omega) (by omega)
              rw [hhr _ hwj] at p2
              have hTz : ((bs[j].who : Int) == bs[i].who) = false := by
                have : ¬ (bs[j].who : Int) = bs[i].who := by omega
                simp [this]
              have w1 : IntKind.i64.wrap (bs[j].start * 9) = bs[j].start * 9 := IntWalk.i64_in _ (by omega)
              have w2 : IntKind.i64.wrap (bs[j].fin * 9) = bs[j].fin * 9 := IntWalk.i64_in _ (by omega)
              have w3 : IntKind.i64.wrap (fr + bs[j].start * 9) = fr + bs[j].start * 9 := IntWalk.i64_in _ (by omega)
              have w4 : IntKind.i64.wrap (fr + bs[j].fin * 9) = fr + bs[j].fin * 9 := IntWalk.i64_in _ (by omega)
              simp [e2, e3, e4, e5, e6, e16, e17, e18, hj, hcx, hbe, ld44, ld3, hfrs, wj, hcz, hax, hba, hA, hB, hTz, m1, c11, n1, hbx, eBRow, load_iptr_one ag23 sz23, hrow _ hwj, eBool, load_iptr_one ag4 sz4, p2, w1, w2, w3, w4, buildSliceA, zeros, List.range, List.range.loop]
              generalize hM2 : Mem.mk _ _ _ _ = M2
              have n2 : M2.next = s.mem.next + 70 := by rw [← hM2]
              have mo2 : ∀ id, id ≠ s.mem.next + 4 → id ≠ s.mem.next + 67 → M2.mode id = s.mem.mode id := fun id h h' => by
                rw [← hM2]
                simp [upd, h, h']
              have lo2 : ∀ id, id < s.mem.next → M2.cell id = s.mem.cell id ∧ M2.mode id = s.mem.mode id ∧ M2.siz id = s.mem.siz id := fun id h => by
                have h1 : ¬ id = s.mem.next + 4 := by omega
                have h2 : ¬ id = s.mem.next + 67 := by omega
                rw [← hM2]
                refine ⟨?_, ?_, ?_⟩
                · funext o; simp [h1, h2]
                · simp [upd, h1, h2]
                · simp [upd, h1, h2]
              have g2 : Grow s.mem M2 := ⟨by omega, fun id h => (lo2 id h).1, fun id h => (lo2 id h).2.1, fun id h => (lo2 id h).2.2, fun hd id hid => by
                rw [mo2 id (by omega) (by omega)]
                exact hd id (by omega)⟩
              obtain ⟨inf, i1, i2, i3⟩ := inf77
              obtain ⟨m3, a1, a2, a3, a4, a5⟩ := App.more (P := Tryd.prog) (t := 46) eSen_len Tryd.underlying46 i1 i2 (by omega) zc77 rfl (by omega) (H.app.grow g2) (xid := s.mem.next + 67) (new := s.mem.next + 68) (v := toSen fr bs[j])
                (by rw [← hM2]; simp) (fun o ho => by
                  have h4 : o = 0 ∨ o = 1 ∨ o = 2 ∨ o = 3 := by omega
                  rw [← hM2]
                  rcases h4 with rfl | rfl | rfl | rfl <;> simp [eSen, toSen]) (by omega) (by rw [mo2 _ (by omega) (by omega)]; exact hfrs 68) (by omega) (by omega)
              have ns : ∀ id, id < 3 → ∀ n, s.env 11 ≠ .own id 0 n 4 := fun id hid n e => by
                rcases H.app with ⟨_, q1⟩ | ⟨id', q1, q2, _⟩
                · rw [q1] at e; cases e
                · rw [q1] at e; cases e; omega
              have low : ∀ id, id < 3 → m3.cell id = s.mem.cell id ∧ m3.mode id = s.mem.mode id := fun id hid => by
                obtain ⟨q1, q2, q3⟩ := a4 id (by omega) (ns id hid)
                obtain ⟨r1, r2, r3⟩ := lo2 id (by omega)
                exact ⟨q1.trans r1, q2.trans r2⟩
              have fr3 : Fresh m3 := fun id hid => by
                refine a5 id (by omega) ?_
                rw [mo2 id (by omega) (by omega)]
                exact H.h1.fresh id (by omega)
              have H3 : PolM c w (.own (s.mem.next + 68) 0 ((polL bs bs[i] i fr j).length + 1) 4) (polL bs bs[i] i fr (j + 1)) m3 := by
                refine ⟨⟨by omega, by rw [(low 1 (by omega)).2]; exact H.h1.rw, fun o ho => by rw [(low 1 (by omega)).1]; exact H.h1.cell o ho, fr3⟩, ⟨by omega, by rw [(low 2 (by omega)).2]; exact H.h2.rw, fun o ho => by rw [(low 2 (by omega)).1]; exact H.h2.cell o ho, fr3⟩, ?_⟩
                rw [hsucc]
                exact a2
              simp [a1, e2, e3, e4, e5, e6, e16, e17, e18, wj]
              refine ⟨_, _, ⟨rfl, rfl⟩, ?_⟩
              simp [e2, e3, e4, e5, e6, e16, e17]
              exact ⟨by omega, j + 1, by omega, by simp, H3.grow (Grow.bump _ _)⟩
      · have : j = bs.length := by omega
        subst this
        simp [e2, e3, e4, e6, e16, e17, e18]
        exact H.grow (Grow.bump _ _))
  obtain ⟨rfl, e2, e3, e4, e6, H⟩ := hp
  have m2 := H.h2.rw
  have c20 := H.h2.cell 0 (by simp [eAir])
  have c21 := H.h2.cell 1 (by simp [eAir])
  simp [eAir] at c20 c21
  obtain ⟨a', m', f1, f2, f3, f4⟩ := (H.app.grow (Grow.bump s'.mem 21)).frozen 6 eSen_len (fun x hx a ha m => by
    simp [eSen] at ha
    rcases ha with rfl | rfl | rfl | rfl <;> rfl) (Alive.refl _)
  have w1 : IntKind.i64.wrap (bs[i].start * 9) = bs[i].start * 9 := IntWalk.i64_in _ (by omega)
  have w3 : IntKind.i64.wrap (fr + bs[i].start * 9) = fr + bs[i].start * 9 := IntWalk.i64_in _ (by omega)
  have hlen := polL_len bs bs[i] i fr bs.length
  have hsz := hsen.most
  have g24 := fun m => c24 k w hw a' (polL bs bs[i] i fr bs.length) f2 hsen (fun m => f4 7 m) bs[i].who (by omega) (fr + bs[i].start * 9) ⟨by omega, by omega⟩ (by omega) m
  have h24 : cCall C T k 24 [.agg (eAir w), s'.env 11, .int .i64 bs[i].who, .int .i64 (fr + bs[i].start * 9)] { cell := s'.mem.cell, mode := s'.mem.mode, siz := s'.mem.siz, next := s'.mem.next + 21 } = some (_, m') :=
    pure_args kd24 (g24 C.m0) (by simp [eAir, f4 7]) (by simp [eAir, f1])
  simp only [eAir] at h24
  simp [e2, e3, e4, e6, hax, hba, ld3, m2, c20, c21, w1, w3, h24]
end Go.Proofs.YtmfdjipijifabaaDoor
end
section
/- The stations and the world of a contest: what is built in memory. -/
set_option linter.unusedVariables false
set_option linter.unusedSimpArgs false
set_option linter.unnecessarySimpa false
set_option maxRecDepth 100000
namespace Go.Proofs.YtmfdjipijifabaaDoor
open Go.Ab

def eOwn (n : Nat) (id : Nat) : List AVal := [.own id 0 n 1]
theorem eOwn_len (n id : Nat) : (eOwn n id).length = 1 := rfl

/-- What is built: the stations, the radios, the rows of who hears whom, and the rows of shadows. Every block has a tag, by which the blocks differ. -/
structure Q5 (n : Nat) (tg : Nat → Nat) (sS sR sH sW : AVal) (cons : List Con) (rads : List Rad) (hid wid : List Nat) (hm : Nat → Nat → Bool) (wm : Nat → Nat → Int) (m : Mem) : Prop where
  aS : App eCon 7 sS cons 9 m
  aR : App eRad 4 sR rads 9 m
  aH : App (eOwn n) 1 sH hid 9 m
  aW : App (eOwn n) 1 sW wid 9 m
  rH : ∀ p (hp : p < hid.length), (9 ≤ hid[p] ∧ hid[p] < m.next) ∧ m.mode hid[p] = .rw ∧ ∀ o, o < n → m.cell hid[p] o = some (.bool (hm p o))
  rW : ∀ p (hp : p < wid.length), (9 ≤ wid[p] ∧ wid[p] < m.next) ∧ m.mode wid[p] = .rw ∧ ∀ o, o < n → m.cell wid[p] o = some (.int .i64 (wm p o))
  tS : ∀ id k, sS = .own id 0 k 7 → tg id = 1
  tR : ∀ id k, sR = .own id 0 k 4 → tg id = 2
  tH : ∀ id k, sH = .own id 0 k 1 → tg id = 3
  tW : ∀ id k, sW = .own id 0 k 1 → tg id = 4
  uH : ∀ p (hp : p < hid.length), tg hid[p] = 5 + 2 * p
  uW : ∀ p (hp : p < wid.length), tg wid[p] = 6 + 2 * p
  fresh : Fresh m
  nx : 9 ≤ m.next

theorem app_own {α : Type} {enc : α → List AVal} {sz lo : Nat} {s : AVal} {l : List α} {m : Mem} (h : App enc sz s l lo m) {id k : Nat} (e : s = .own id 0 k sz) : lo ≤ id ∧ id < m.next := by
  rcases h with ⟨_, q⟩ | ⟨id', q, q2, q3, _⟩
  · rw [q] at e; cases e
  · rw [q] at e; cases e; exact ⟨q2, q3⟩

section
variable {n : Nat} {tg : Nat → Nat} {sS sR sH sW : AVal} {cons : List Con} {rads : List Rad} {hid wid : List Nat} {hm : Nat → Nat → Bool} {wm : Nat → Nat → Int} {m : Mem}

theorem Q5.grow {m' : Mem} (H : Q5 n tg sS sR sH sW cons rads hid wid hm wm m) (g : Grow m m') : Q5 n tg sS sR sH sW cons rads hid wid hm wm m' := by
  refine ⟨H.aS.grow g, H.aR.grow g, H.aH.grow g, H.aW.grow g, fun p hp => ?_, fun p hp => ?_, H.tS, H.tR, H.tH, H.tW, H.uH, H.uW, g.dead H.fresh, Nat.le_trans H.nx g.next⟩
  · obtain ⟨⟨a, b⟩, c, d⟩ := H.rH p hp
    exact ⟨⟨a, Nat.lt_of_lt_of_le b g.next⟩, by rw [g.mode _ b]; exact c, fun o ho => by rw [g.cell _ b]; exact d o ho⟩
  · obtain ⟨⟨a, b⟩, c, d⟩ := H.rW p hp
    exact ⟨⟨a, Nat.lt_of_lt_of_le b g.next⟩, by rw [g.mode _ b]; exact c, fun o ho => by rw [g.cell _ b]; exact d o ho⟩

theorem Q5.pushS {M2 m3 : Mem} {new k' : Nat} {v : Con} (H : Q5 n tg sS sR sH sW cons rads hid wid hm wm m) (g : Grow m M2) (hnew : m.next ≤ new) (a2 : App eCon 7 (.own new 0 k' 7) (cons ++ [v]) 9 m3) (hn : M2.next ≤ m3.next)
    (fr : ∀ id, id ≠ new → (∀ k, sS ≠ .own id 0 k 7) → m3.cell id = M2.cell id ∧ m3.mode id = M2.mode id ∧ m3.siz id = M2.siz id) (hf : Fresh m3) :
    Q5 n (upd tg new 1) (.own new 0 k' 7) sR sH sW (cons ++ [v]) rads hid wid hm wm m3 := by
  have low : ∀ id, id < m.next → tg id ≠ 1 → m3.cell id = m.cell id ∧ m3.mode id = m.mode id ∧ m3.siz id = m.siz id := fun id hid ht => by
    obtain ⟨q1, q2, q3⟩ := fr id (by omega) (fun k e => ht (H.tS id k e))
    exact ⟨q1.trans (g.cell id hid), q2.trans (g.mode id hid), q3.trans (g.siz id hid)⟩
  have hnx := g.next
  have tgl : ∀ id, id < m.next → (upd tg new 1) id = tg id := fun id hid => by
    simp only [upd]
    rw [if_neg (by omega)]
  refine ⟨a2, H.aR.same (by omega) (fun id k e hid _ => low id hid (by rw [H.tR id k e]; omega)), H.aH.same (by omega) (fun id k e hid _ => low id hid (by rw [H.tH id k e]; omega)), H.aW.same (by omega) (fun id k e hid _ => low id hid (by rw [H.tW id k e]; omega)), fun p hp => ?_, fun p hp => ?_, fun id k e => ?_, fun id k e => ?_, fun id k e => ?_, fun id k e => ?_, fun p hp => ?_, fun p hp => ?_, hf, by have := H.nx; omega⟩
  · obtain ⟨⟨a, b⟩, c, d⟩ := H.rH p hp
    have ht := H.uH p hp
    obtain ⟨q1, q2, q3⟩ := low _ b (by omega)
    exact ⟨⟨a, by omega⟩, by rw [q2]; exact c, fun o ho => by rw [q1]; exact d o ho⟩
  · obtain ⟨⟨a, b⟩, c, d⟩ := H.rW p hp
    have ht := H.uW p hp
    obtain ⟨q1, q2, q3⟩ := low _ b (by omega)
    exact ⟨⟨a, by omega⟩, by rw [q2]; exact c, fun o ho => by rw [q1]; exact d o ho⟩
  · cases e; simp [upd]
  · rw [tgl id (app_own H.aR e).2]; exact H.tR id k e
  · rw [tgl id (app_own H.aH e).2]; exact H.tH id k e
  · rw [tgl id (app_own H.aW e).2]; exact H.tW id k e
  · rw [tgl _ (H.rH p hp).1.2]; exact H.uH p hp
  · rw [tgl _ (H.rW p hp).1.2]; exact H.uW p hp

theorem Q5.pushR {M2 m3 : Mem} {new k' : Nat} {v : Rad} (H : Q5 n tg sS sR sH sW cons rads hid wid hm wm m) (g : Grow m M2) (hnew : m.next ≤ new) (a2 : App eRad 4 (.own new 0 k' 4) (rads ++ [v]) 9 m3) (hn : M2.next ≤ m3.next)
    (fr : ∀ id, id ≠ new → (∀ k, sR ≠ .own id 0 k 4) → m3.cell id = M2.cell id ∧ m3.mode id = M2.mode id ∧ m3.siz id = M2.siz id) (hf : Fresh m3) :
    Q5 n (upd tg new 2) sS (.own new 0 k' 4) sH sW cons (rads ++ [v]) hid wid hm wm m3 := by
  have low : ∀ id, id < m.next → tg id ≠ 2 → m3.cell id = m.cell id ∧ m3.mode id = m.mode id ∧ m3.siz id = m.siz id := fun id hid ht => by
    obtain ⟨q1, q2, q3⟩ := fr id (by omega) (fun k e => ht (H.tR id k e))
    exact ⟨q1.trans (g.cell id hid), q2.trans (g.mode id hid), q3.trans (g.siz id hid)⟩
  have hnx := g.next
  have tgl : ∀ id, id < m.next → (upd tg new 2) id = tg id := fun id hid => by
    simp only [upd]
    rw [if_neg (by omega)]
  refine ⟨H.aS.same (by omega) (fun id k e hid _ => low id hid (by rw [H.tS id k e]; omega)), a2, H.aH.same (by omega) (fun id k e hid _ => low id hid (by rw [H.tH id k e]; omega)), H.aW.same (by omega) (fun id k e hid _ => low id hid (by rw [H.tW id k e]; omega)), fun p hp => ?_, fun p hp => ?_, fun id k e => ?_, fun id k e => ?_, fun id k e => ?_, fun id k e => ?_, fun p hp => ?_, fun p hp => ?_, hf, by have := H.nx; omega⟩
  · obtain ⟨⟨a, b⟩, c, d⟩ := H.rH p hp
    have ht := H.uH p hp
    obtain ⟨q1, q2, q3⟩ := low _ b (by omega)
    exact ⟨⟨a, by omega⟩, by rw [q2]; exact c, fun o ho => by rw [q1]; exact d o ho⟩
  · obtain ⟨⟨a, b⟩, c, d⟩ := H.rW p hp
    have ht := H.uW p hp
    obtain ⟨q1, q2, q3⟩ := low _ b (by omega)
    exact ⟨⟨a, by omega⟩, by rw [q2]; exact c, fun o ho => by rw [q1]; exact d o ho⟩
  · rw [tgl id (app_own H.aS e).2]; exact H.tS id k e
  · cases e; simp [upd]
  · rw [tgl id (app_own H.aH e).2]; exact H.tH id k e
  · rw [tgl id (app_own H.aW e).2]; exact H.tW id k e
  · rw [tgl _ (H.rH p hp).1.2]; exact H.uH p hp
  · rw [tgl _ (H.rW p hp).1.2]; exact H.uW p hp

theorem Q5.pushH {M2 m3 : Mem} {new k' : Nat} {v : Nat} (H : Q5 n tg sS sR sH sW cons rads hid wid hm wm m) (g : Grow m M2) (hnew : m.next ≤ new) (hv : m.next ≤ v ∧ v < M2.next ∧ v ≠ new) (hvm : M2.mode v = .rw) (hvc : ∀ o, o < n → M2.cell v o = some (.bool (hm hid.length o))) (a2 : App (eOwn n) 1 (.own new 0 k' 1) (hid ++ [v]) 9 m3) (hn : M2.next ≤ m3.next)
    (fr : ∀ id, id ≠ new → (∀ k, sH ≠ .own id 0 k 1) → m3.cell id = M2.cell id ∧ m3.mode id = M2.mode id ∧ m3.siz id = M2.siz id) (hf : Fresh m3) :
    Q5 n (upd (upd tg new 3) v (5 + 2 * hid.length)) sS sR (.own new 0 k' 1) sW cons rads (hid ++ [v]) wid hm wm m3 := by
  have low : ∀ id, id < m.next → tg id ≠ 3 → m3.cell id = m.cell id ∧ m3.mode id = m.mode id ∧ m3.siz id = m.siz id := fun id hid ht => by
    obtain ⟨q1, q2, q3⟩ := fr id (by omega) (fun k e => ht (H.tH id k e))
    exact ⟨q1.trans (g.cell id hid), q2.trans (g.mode id hid), q3.trans (g.siz id hid)⟩
  have hnx := g.next
  have tgl : ∀ id, id < m.next → (upd (upd tg new 3) v (5 + 2 * hid.length)) id = tg id := fun id hid => by
    simp only [upd]
    rw [if_neg (by omega), if_neg (by omega)]
  refine ⟨H.aS.same (by omega) (fun id k e hid _ => low id hid (by rw [H.tS id k e]; omega)), H.aR.same (by omega) (fun id k e hid _ => low id hid (by rw [H.tR id k e]; omega)), a2, H.aW.same (by omega) (fun id k e hid _ => low id hid (by rw [H.tW id k e]; omega)), fun p hp => ?_, fun p hp => ?_, fun id k e => ?_, fun id k e => ?_, fun id k e => ?_, fun id k e => ?_, fun p hp => ?_, fun p hp => ?_, hf, by have := H.nx; omega⟩
  · rw [List.length_append, List.length_singleton] at hp
    by_cases hp' : p < hid.length
    · rw [List.getElem_append_left hp']
      have hp := hp'
      obtain ⟨⟨a, b⟩, c, d⟩ := H.rH p hp
      have ht := H.uH p hp
      obtain ⟨q1, q2, q3⟩ := low _ b (by omega)
      exact ⟨⟨a, by omega⟩, by rw [q2]; exact c, fun o ho => by rw [q1]; exact d o ho⟩
    · have : p = hid.length := by omega
      subst this
      rw [List.getElem_concat_length rfl]
      obtain ⟨q1, q2, q3⟩ := fr v hv.2.2 (fun k e => by have := app_own H.aH e; omega)
      have := H.nx
      exact ⟨⟨by omega, by omega⟩, by rw [q2]; exact hvm, fun o ho => by rw [q1]; exact hvc o ho⟩
  · obtain ⟨⟨a, b⟩, c, d⟩ := H.rW p hp
    have ht := H.uW p hp
    obtain ⟨q1, q2, q3⟩ := low _ b (by omega)
    exact ⟨⟨a, by omega⟩, by rw [q2]; exact c, fun o ho => by rw [q1]; exact d o ho⟩
  · rw [tgl id (app_own H.aS e).2]; exact H.tS id k e
  · rw [tgl id (app_own H.aR e).2]; exact H.tR id k e
  · cases e
    simp only [upd]
    rw [if_neg (fun e => hv.2.2 e.symm)]; simp
  · rw [tgl id (app_own H.aW e).2]; exact H.tW id k e
  · rw [List.length_append, List.length_singleton] at hp
    by_cases hp' : p < hid.length
    · rw [List.getElem_append_left hp', tgl _ (H.rH p hp').1.2]
      exact H.uH p hp'
    · have : p = hid.length := by omega
      subst this
      rw [List.getElem_concat_length rfl]
      simp [upd]
  · rw [tgl _ (H.rW p hp).1.2]; exact H.uW p hp

theorem Q5.pushW {M2 m3 : Mem} {new k' : Nat} {v : Nat} (H : Q5 n tg sS sR sH sW cons rads hid wid hm wm m) (g : Grow m M2) (hnew : m.next ≤ new) (hv : m.next ≤ v ∧ v < M2.next ∧ v ≠ new) (hvm : M2.mode v = .rw) (hvc : ∀ o, o < n → M2.cell v o = some (.int .i64 (wm wid.length o))) (a2 : App (eOwn n) 1 (.own new 0 k' 1) (wid ++ [v]) 9 m3) (hn : M2.next ≤ m3.next)
    (fr : ∀ id, id ≠ new → (∀ k, sW ≠ .own id 0 k 1) → m3.cell id = M2.cell id ∧ m3.mode id = M2.mode id ∧ m3.siz id = M2.siz id) (hf : Fresh m3) :
    Q5 n (upd (upd tg new 4) v (6 + 2 * wid.length)) sS sR sH (.own new 0 k' 1) cons rads hid (wid ++ [v]) hm wm m3 := by
  have low : ∀ id, id < m.next → tg id ≠ 4 → m3.cell id = m.cell id ∧ m3.mode id = m.mode id ∧ m3.siz id = m.siz id := fun id hid ht => by
    obtain ⟨q1, q2, q3⟩ := fr id (by omega) (fun k e => ht (H.tW id k e))
    exact ⟨q1.trans (g.cell id hid), q2.trans (g.mode id hid), q3.trans (g.siz id hid)⟩
  have hnx := g.next
  have tgl : ∀ id, id < m.next → (upd (upd tg new 4) v (6 + 2 * wid.length)) id = tg id := fun id hid => by
    simp only [upd]
    rw [if_neg (by omega), if_neg (by omega)]
  refine ⟨H.aS.same (by omega) (fun id k e hid _ => low id hid (by rw [H.tS id k e]; omega)), H.aR.same (by omega) (fun id k e hid _ => low id hid (by rw [H.tR id k e]; omega)), H.aH.same (by omega) (fun id k e hid _ => low id hid (by rw [H.tH id k e]; omega)), a2, fun p hp => ?_, fun p hp => ?_, fun id k e => ?_, fun id k e => ?_, fun id k e => ?_, fun id k e => ?_, fun p hp => ?_, fun p hp => ?_, hf, by have := H.nx; omega⟩
  · obtain ⟨⟨a, b⟩, c, d⟩ := H.rH p hp
    have ht := H.uH p hp
    obtain ⟨q1, q2, q3⟩ := low _ b (by omega)
    exact ⟨⟨a, by omega⟩, by rw [q2]; exact c, fun o ho => by rw [q1]; exact d o ho⟩
  · rw [List.length_append, List.length_singleton] at hp
    by_cases hp' : p < wid.length
    · rw [List.getElem_append_left hp']
      have hp := hp'
      obtain ⟨⟨a, b⟩, c, d⟩ := H.rW p hp
      have ht := H.uW p hp
      obtain ⟨q1, q2, q3⟩ := low _ b (by omega)
      exact ⟨⟨a, by omega⟩, by rw [q2]; exact c, fun o ho => by rw [q1]; exact d o ho⟩
    · have : p = wid.length := by omega
      subst this
      rw [List.getElem_concat_length rfl]
      obtain ⟨q1, q2, q3⟩ := fr v hv.2.2 (fun k e => by have := app_own H.aW e; omega)
      have := H.nx
      exact ⟨⟨by omega, by omega⟩, by rw [q2]; exact hvm, fun o ho => by rw [q1]; exact hvc o ho⟩
  · rw [tgl id (app_own H.aS e).2]; exact H.tS id k e
  · rw [tgl id (app_own H.aR e).2]; exact H.tR id k e
  · rw [tgl id (app_own H.aH e).2]; exact H.tH id k e
  · cases e
    simp only [upd]
    rw [if_neg (fun e => hv.2.2 e.symm)]; simp
  · rw [tgl _ (H.rH p hp).1.2]; exact H.uH p hp
  · rw [List.length_append, List.length_singleton] at hp
    by_cases hp' : p < wid.length
    · rw [List.getElem_append_left hp', tgl _ (H.rW p hp').1.2]
      exact H.uW p hp'
    · have : p = wid.length := by omega
      subst this
      rw [List.getElem_concat_length rfl]
      simp [upd]

theorem Q5.setH {m' : Mem} {i j : Nat} (b : Bool) (H : Q5 n tg sS sR sH sW cons rads hid wid hm wm m) (hj : j < hid.length) (hn : m.next ≤ m'.next) (hmo : m'.mode = m.mode) (hsi : m'.siz = m.siz) (hc : ∀ id o, ¬ (id = hid[j] ∧ o = i) → m'.cell id o = m.cell id o) (hb : m'.cell hid[j] i = some (.bool b)) :
    Q5 n tg sS sR sH sW cons rads hid wid (fun p o => if p = j ∧ o = i then b else hm p o) wm m' := by
  have hu := H.uH j hj
  have low : ∀ id, tg id ≠ 5 + 2 * j → m'.cell id = m.cell id := fun id ht => by
    funext o
    refine hc id o (fun e => ht ?_)
    rw [e.1]; exact hu
  have ap : ∀ {α : Type} {enc : α → List AVal} {sz : Nat} {s : AVal} {l : List α} (c : Nat), App enc sz s l 9 m → (∀ id k, s = .own id 0 k sz → tg id = c) → c < 5 → App enc sz s l 9 m' := fun c ha ht hlt => ha.same hn (fun id k e hid _ => ⟨low id (by rw [ht id k e]; omega), by rw [hmo], by rw [hsi]⟩)
  refine ⟨ap 1 H.aS H.tS (by omega), ap 2 H.aR H.tR (by omega), ap 3 H.aH H.tH (by omega), ap 4 H.aW H.tW (by omega), fun p hp => ?_, fun p hp => ?_, H.tS, H.tR, H.tH, H.tW, H.uH, H.uW, fun id hid => by rw [hmo]; exact H.fresh id (by omega), by have := H.nx; omega⟩
  · obtain ⟨⟨a, b'⟩, c, d⟩ := H.rH p hp
    have ht := H.uH p hp
    refine ⟨⟨a, by omega⟩, by rw [hmo]; exact c, fun o ho => ?_⟩
    by_cases hp2 : p = j
    · subst hp2
      by_cases ho2 : o = i
      · subst ho2
        rw [hb]
        simp
      · rw [hc _ _ (fun e => ho2 e.2), d o ho]
        simp [ho2]
    · rw [low _ (by omega), d o ho]
      simp [hp2]
  · obtain ⟨⟨a, b'⟩, c, d⟩ := H.rW p hp
    have ht := H.uW p hp
    exact ⟨⟨a, by omega⟩, by rw [hmo]; exact c, fun o ho => by rw [low _ (by omega)]; exact d o ho⟩

theorem Q5.setW {m' : Mem} {i j : Nat} (b : Int) (H : Q5 n tg sS sR sH sW cons rads hid wid hm wm m) (hj : j < wid.length) (hn : m.next ≤ m'.next) (hmo : m'.mode = m.mode) (hsi : m'.siz = m.siz) (hc : ∀ id o, ¬ (id = wid[j] ∧ o = i) → m'.cell id o = m.cell id o) (hb : m'.cell wid[j] i = some (.int .i64 b)) :
    Q5 n tg sS sR sH sW cons rads hid wid hm (fun p o => if p = j ∧ o = i then b else wm p o) m' := by
  have hu := H.uW j hj
  have low : ∀ id, tg id ≠ 6 + 2 * j → m'.cell id = m.cell id := fun id ht => by
    funext o
    refine hc id o (fun e => ht ?_)
    rw [e.1]; exact hu
  have ap : ∀ {α : Type} {enc : α → List AVal} {sz : Nat} {s : AVal} {l : List α} (c : Nat), App enc sz s l 9 m → (∀ id k, s = .own id 0 k sz → tg id = c) → c < 5 → App enc sz s l 9 m' := fun c ha ht hlt => ha.same hn (fun id k e hid _ => ⟨low id (by rw [ht id k e]; omega), by rw [hmo], by rw [hsi]⟩)
  refine ⟨ap 1 H.aS H.tS (by omega), ap 2 H.aR H.tR (by omega), ap 3 H.aH H.tH (by omega), ap 4 H.aW H.tW (by omega), fun p hp => ?_, fun p hp => ?_, H.tS, H.tR, H.tH, H.tW, H.uH, H.uW, fun id hid => by rw [hmo]; exact H.fresh id (by omega), by have := H.nx; omega⟩
  · obtain ⟨⟨a, b'⟩, c, d⟩ := H.rH p hp
    have ht := H.uH p hp
    exact ⟨⟨a, by omega⟩, by rw [hmo]; exact c, fun o ho => by rw [low _ (by omega)]; exact d o ho⟩
  · obtain ⟨⟨a, b'⟩, c, d⟩ := H.rW p hp
    have ht := H.uW p hp
    refine ⟨⟨a, by omega⟩, by rw [hmo]; exact c, fun o ho => ?_⟩
    by_cases hp2 : p = j
    · subst hp2
      by_cases ho2 : o = i
      · subst ho2
        rw [hb]
        simp
      · rw [hc _ _ (fun e => ho2 e.2), d o ho]
        simp [ho2]
    · rw [low _ (by omega), d o ho]
      simp [hp2]

theorem Q5.low {m' : Mem} (H : Q5 n tg sS sR sH sW cons rads hid wid hm wm m) (hn : m.next ≤ m'.next) (hmo : m'.mode = m.mode) (hsi : m'.siz = m.siz) (hc : ∀ id, 9 ≤ id → m'.cell id = m.cell id) : Q5 n tg sS sR sH sW cons rads hid wid hm wm m' := by
  have ap : ∀ {α : Type} {enc : α → List AVal} {sz : Nat} {s : AVal} {l : List α}, App enc sz s l 9 m → App enc sz s l 9 m' := fun ha => ha.same hn (fun id k e hid hlo => ⟨hc id hlo, by rw [hmo], by rw [hsi]⟩)
  refine ⟨ap H.aS, ap H.aR, ap H.aH, ap H.aW, fun p hp => ?_, fun p hp => ?_, H.tS, H.tR, H.tH, H.tW, H.uH, H.uW, fun id hid => by rw [hmo]; exact H.fresh id (by omega), by have := H.nx; omega⟩
  · obtain ⟨⟨a, b⟩, c, d⟩ := H.rH p hp
    exact ⟨⟨a, by omega⟩, by rw [hmo]; exact c, fun o ho => by rw [hc _ a]; exact d o ho⟩
  · obtain ⟨⟨a, b⟩, c, d⟩ := H.rW p hp
    exact ⟨⟨a, by omega⟩, by rw [hmo]; exact c, fun o ho => by rw [hc _ a]; exact d o ho⟩
end

/-- The blocks that hold what is built. -/
structure B5 (ask : Bool) (sS sR sH sW : AVal) (m : Mem) : Prop where
  m1 : m.mode 1 = .rw
  m2 : m.mode 2 = .rw
  m6 : m.mode 6 = .rw
  m8 : m.mode 8 = .rw
  c1 : m.cell 1 0 = some .nils ∧ m.cell 1 1 = some .nils ∧ m.cell 1 2 = some (.bool false) ∧ m.cell 1 3 = some (.int .i64 0)
  c2 : m.cell 2 0 = some .nils ∧ m.cell 2 1 = some .nils
  c6 : m.cell 6 0 = some sS ∧ m.cell 6 1 = some sH ∧ m.cell 6 2 = some (.bool ask) ∧ m.cell 6 3 = some (.int .i64 0)
  c8 : m.cell 8 0 = some sR ∧ m.cell 8 1 = some sW
theorem B5.low {ask : Bool} {sS sR sH sW : AVal} {m m' : Mem} (h : B5 ask sS sR sH sW m) (hl : ∀ id, id < 9 → m'.cell id = m.cell id ∧ m'.mode id = m.mode id) : B5 ask sS sR sH sW m' := by
  obtain ⟨a1, b1⟩ := hl 1 (by omega)
  obtain ⟨a2, b2⟩ := hl 2 (by omega)
  obtain ⟨a6, b6⟩ := hl 6 (by omega)
  obtain ⟨a8, b8⟩ := hl 8 (by omega)
  exact ⟨by rw [b1]; exact h.m1, by rw [b2]; exact h.m2, by rw [b6]; exact h.m6, by rw [b8]; exact h.m8, by rw [a1]; exact h.c1, by rw [a2]; exact h.c2, by rw [a6]; exact h.c6, by rw [a8]; exact h.c8⟩
theorem B5.grow {ask : Bool} {sS sR sH sW : AVal} {m m' : Mem} (h : B5 ask sS sR sH sW m) (hn : 9 ≤ m.next) (g : Grow m m') : B5 ask sS sR sH sW m' :=
  h.low fun id hid => ⟨g.cell id (by omega), g.mode id (by omega)⟩
end Go.Proofs.YtmfdjipijifabaaDoor
end
section
/- The stations and the world of a contest. -/
set_option linter.unusedVariables false
set_option linter.unusedSimpArgs false
set_option linter.unnecessarySimpa false
set_option maxRecDepth 100000
namespace Go.Proofs.YtmfdjipijifabaaDoor
open Go.Ab

/-- A station as it is given. -/
structure Tlk where
  (cat draw frames air to power : Int)
  deriving DecidableEq
def eTlk (x : Tlk) : List AVal := [.int .i64 x.cat, .int .i64 x.draw, .int .i64 x.frames, .int .i64 x.air, .int .i64 x.to, .int .i64 x.power]
theorem eTlk_len (x : Tlk) : (eTlk x).length = 6 := rfl
theorem ld58 (a b c d e f : AVal) (r : List AVal) (m : Mem) : loadA Tryd.prog 58 (.iptr (a :: b :: c :: d :: e :: f :: r)) m = some (.agg [a, b, c, d, e, f]) := load_iptr_agg (cs := [a, b, c, d, e, f]) ag58 sz58 rfl

def toOf (n i : Nat) (x : Tlk) : Nat := if i ≤ (x.to % ((n : Int) - 1)).toNat then (x.to % ((n : Int) - 1)).toNat + 1 else (x.to % ((n : Int) - 1)).toNat
def conOf (n i : Nat) (x : Tlk) : Con := ⟨drawn (x.cat % 4).toNat 0 (x.draw % 4096), x.frames % 9, 1 + x.air % 6, toOf n i x⟩
def radOf (x : Tlk) : Rad := ⟨7, -9, x.power % 100, 6⟩

theorem inf63 : ∃ i, Tryd.prog.info? 63 = some i ∧ i.size = 4 ∧ i.bytes ≤ 100000 := by
  obtain ⟨i, h1, h2, h3⟩ := inf_of (P := Tryd.prog) (t := 63) (a := 4) (b := 32) (by kernel_rfl)
  exact ⟨i, h1, h2, by omega⟩
theorem inf23 : ∃ i, Tryd.prog.info? 23 = some i ∧ i.size = 1 ∧ i.bytes ≤ 100000 := by
  obtain ⟨i, h1, h2, h3⟩ := inf_of (P := Tryd.prog) (t := 23) (a := 1) (b := 24) (by kernel_rfl)
  exact ⟨i, h1, h2, by omega⟩

/-- The state before station i is built. -/
structure L5 (ask : Bool) (n : Nat) (l : List Tlk) (i : Nat) (tg : Nat → Nat) (sS sR sH sW : AVal) (hid wid : List Nat) (m : Mem) : Prop where
  q : Q5 n tg sS sR sH sW ((l.take i).mapIdx (conOf n)) ((l.take i).map radOf) hid wid (fun _ _ => false) (fun _ _ => 0) m
  b : B5 ask sS sR sH sW m
  lh : hid.length = i
  lw : wid.length = i

/-- Whether j hears i. -/
def hmF (n : Nat) (hd : List Bool) (j i : Nat) : Bool := decide (i ≠ j) && (hd[i * n + j]?.getD false)
def wmF (n : Nat) (hd : List Bool) (i j : Nat) : Int := if i ≠ j ∧ hmF n hd j i = false then 600 else 0
def ctsOf (ask : Bool) (l : List Tlk) (hd : List Bool) : Cts := ⟨l.mapIdx (conOf l.length), (List.range l.length).map fun j => (List.range l.length).map fun i => hmF l.length hd j i, ask, 0⟩
def airOf (l : List Tlk) (hd : List Bool) : Air := ⟨l.map radOf, (List.range l.length).map fun i => (List.range l.length).map fun j => wmF l.length hd i j⟩

/-- What is told before the pair i, j. -/
def hmT (n : Nat) (hd : List Bool) (i j p o : Nat) : Bool := if o < i ∨ (o = i ∧ p < j) then hmF n hd p o else false
def wmT (n : Nat) (hd : List Bool) (i j p o : Nat) : Int := if p < i ∨ (p = i ∧ o < j) then wmF n hd p o else 0
theorem hmT_next (n : Nat) (hd : List Bool) (i j : Nat) : hmT n hd i (j + 1) = fun p o => if p = j ∧ o = i then hmF n hd j i else hmT n hd i j p o := by
  funext p o
  unfold hmT
  by_cases h : p = j ∧ o = i
  · rw [if_pos h, if_pos (by omega), h.1, h.2]
  · rw [if_neg h]
    by_cases h2 : o < i ∨ (o = i ∧ p < j)
    · rw [if_pos h2, if_pos (by omega)]
    · rw [if_neg h2, if_neg (by omega)]
theorem wmT_next (n : Nat) (hd : List Bool) (i j : Nat) : wmT n hd i (j + 1) = fun p o => if p = i ∧ o = j then wmF n hd i j else wmT n hd i j p o := by
  funext p o
  unfold wmT
  by_cases h : p = i ∧ o = j
  · rw [if_pos h, if_pos (by omega), h.1, h.2]
  · rw [if_neg h]
    by_cases h2 : p < i ∨ (p = i ∧ o < j)
    · rw [if_pos h2, if_pos (by omega)]
    · rw [if_neg h2, if_neg (by omega)]
theorem wmT_same (n : Nat) (hd : List Bool) (i j : Nat) (h : wmF n hd i j = 0) : wmT n hd i (j + 1) = wmT n hd i j := by
  rw [wmT_next]
  funext p o
  by_cases h1 : p = i ∧ o = j
  · rw [if_pos h1, h, h1.1, h1.2]
    unfold wmT
    rw [if_neg (by omega)]
  · rw [if_neg h1]
theorem Q5.congr {n : Nat} {tg : Nat → Nat} {sS sR sH sW : AVal} {cons : List Con} {rads : List Rad} {hid wid : List Nat} {hm hm' : Nat → Nat → Bool} {wm wm' : Nat → Nat → Int} {m : Mem} (H : Q5 n tg sS sR sH sW cons rads hid wid hm wm m)
    (h1 : ∀ p, p < hid.length → ∀ o, o < n → hm p o = hm' p o) (h2 : ∀ p, p < wid.length → ∀ o, o < n → wm p o = wm' p o) : Q5 n tg sS sR sH sW cons rads hid wid hm' wm' m :=
  ⟨H.aS, H.aR, H.aH, H.aW, fun p hp => ⟨(H.rH p hp).1, (H.rH p hp).2.1, fun o ho => by rw [← h1 p hp o ho]; exact (H.rH p hp).2.2 o ho⟩, fun p hp => ⟨(H.rW p hp).1, (H.rW p hp).2.1, fun o ho => by rw [← h2 p hp o ho]; exact (H.rW p hp).2.2 o ho⟩, H.tS, H.tR, H.tH, H.tW, H.uH, H.uW, H.fresh, H.nx⟩

theorem sl_imm_of {α : Type} {enc : α → List AVal} {a : AVal} {l : List α} (h : SL enc a l) (hl : 0 < l.length) : a = .imm l.length (l.flatMap enc) := by
  rcases h with ⟨rfl, _⟩ | h
  · simp at hl
  · exact h
theorem rowsB_flat {α : Type} (f : α → List Bool) : ∀ L : List α, (L.map f).flatMap eBRow = L.map (fun p => .imm (f p).length ((f p).map .bool)) := by
  intro L
  have h : ∀ r : List Bool, r.flatMap eBool = r.map .bool := fun r => by
    induction r with
    | nil => rfl
    | cons x r ih => simp [List.flatMap_cons, ih, eBool]
  induction L with
  | nil => rfl
  | cons x L ih => simp only [List.map_cons, List.flatMap_cons, ih, eBRow, h]; rfl
theorem rowsI_flat {α : Type} (f : α → List Int) : ∀ L : List α, (L.map f).flatMap eRow = L.map (fun p => .imm (f p).length ((f p).map (.int .i64))) := by
  intro L
  have h : ∀ r : List Int, r.flatMap eInt = r.map (.int .i64) := fun r => by
    induction r with
    | nil => rfl
    | cons x r ih => simp [List.flatMap_cons, ih, eInt]
  induction L with
  | nil => rfl
  | cons x L ih => simp only [List.map_cons, List.flatMap_cons, ih, eRow, h]; rfl
theorem rows_frozen (d : Nat) {n : Nat} {f : Nat → Nat → AVal} (hf : ∀ p o m, freezeV (d + 1) (f p o) m = some (f p o, m)) {m : Mem} : ∀ (ids : List Nat) (b : Nat) (m2 : Mem), (∀ p (hp : p < ids.length), m.mode ids[p] ≠ .dead ∧ ∀ o, o < n → m.cell ids[p] o = some (f (b + p) o)) → Alive m m2 →
    ∃ m', freezeL (freezeV (d + 2)) (ids.flatMap (eOwn n)) m2 = some ((List.range ids.length).map (fun p => .imm n ((List.range n).map (f (b + p)))), m') ∧ Alive m m' := by
  intro ids
  induction ids with
  | nil => intro b m2 _ ha; exact ⟨m2, rfl, ha⟩
  | cons x ids ih =>
    intro b m2 h ha
    obtain ⟨h1, h2⟩ := h 0 (by simp)
    simp only [List.getElem_cons_zero, Nat.add_zero] at h1 h2
    have hc : cellsAt m2 x 0 (n * 1) = some ((List.range n).map (f b)) := by
      have := cellsAt_of (m := m2) (id := x) ((List.range n).map (f b)) 0 (fun o ho => by
        have ho' : o < n := by simpa using ho
        rw [Nat.zero_add, ha.1, h2 o ho']
        simp [ho'])
      simpa using this
    have hl : ∀ (l : List Nat) m, freezeL (freezeV (d + 1)) (l.map (f b)) m = some (l.map (f b), m) := by
      intro l
      induction l with
      | nil => intro m; rfl
      | cons y l ih => intro m; simp [freezeL, hf, ih]
    obtain ⟨m', g1, g2⟩ := ih (b + 1) { m2 with mode := upd m2.mode x .ro } (fun p hp => by
      have := h (p + 1) (by simpa using hp)
      simp only [List.getElem_cons_succ] at this
      rw [show b + 1 + p = b + (p + 1) by omega]
      exact this) (ha.ro x)
    refine ⟨m', ?_, g2⟩
    simp only [List.flatMap_cons, eOwn, List.cons_append, List.nil_append, freezeL]
    rw [freezeV, if_neg (ha.2 x h1), hc]
    simp only [hl]
    have g1' : freezeL (freezeV (d + 2)) (ids.flatMap (eOwn n)) _ = _ := g1
    rw [g1']
    simp [List.range_succ_eq_map, Nat.add_assoc, Nat.add_comm 1]
theorem own_frozen (d : Nat) {n : Nat} {f : Nat → Nat → AVal} (hf : ∀ p o m, freezeV (d + 1) (f p o) m = some (f p o, m)) {s : AVal} {ids : List Nat} {lo : Nat} {m m2 : Mem} (h : App (eOwn n) 1 s ids lo m)
    (hr : ∀ p (hp : p < ids.length), m.mode ids[p] ≠ .dead ∧ ∀ o, o < n → m.cell ids[p] o = some (f p o)) (hl : 0 < ids.length) (ha : Alive m m2) :
    ∃ m', freezeV (d + 3) s m2 = some (.imm ids.length ((List.range ids.length).map (fun p => .imm n ((List.range n).map (f p)))), m') ∧ Alive m m' := by
  rcases h with ⟨rfl, _⟩ | ⟨id, rfl, h2, h3, h4, h5, h6⟩
  · simp at hl
  · have hfl := flatMap_len (eOwn_len n) ids
    have hc : cellsAt m2 id 0 (ids.length * 1) = some (ids.flatMap (eOwn n)) := by
      have := cellsAt_of (m := m2) (id := id) (ids.flatMap (eOwn n)) 0 (fun o ho => by rw [Nat.zero_add, ha.1]; exact h6 o (by rw [hfl] at ho; exact ho))
      rwa [hfl] at this
    obtain ⟨m', g1, g2⟩ := rows_frozen d hf ids 0 { m2 with mode := upd m2.mode id .ro } (fun p hp => by rw [Nat.zero_add]; exact hr p hp) (ha.ro id)
    refine ⟨m', ?_, g2⟩
    rw [freezeV, if_neg (ha.2 id (by rw [h4]; simp)), hc]
    simp only []
    rw [g1]
    simp

set_option maxHeartbeats 4000000 in
theorem c5b (k : Nat) (hk : 79 ≤ k) (a hv : AVal) (l : List Tlk) (hd : List Bool) (ha : SL eTlk a l) (hh : SL eBool hv hd) (ask : Bool) (hn : 2 ≤ l.length ∧ l.length ≤ 6) (hhl : hd.length ≤ 100) :
    fzd (cBody C (cCall C T k) (T 5) k 5 [a, hv, .bool ask] C.m0) = some (.tup [.agg (eCts (ctsOf ask l hd)), .agg (eAir (airOf l hd)), .bool true]) := by
  · rw [body5]
    have hla := SL.len (P := Tryd.prog) Tryd.underlying22 ha
    simp [codeOf, Tryd.f5, hla]
    generalize hl' : cCode C _ _ _ (.loop _) _ = r
    obtain ⟨e, s', rfl, he, hp⟩ := loop_rule hl' (fun q s => s.env 0 = a ∧ s.env 1 = hv ∧ s.env 6 = .ptr 1 0 ∧ s.env 7 = .ptr 2 0 ∧ s.env 9 = .ptr 6 0 ∧ s.env 10 = .ptr 8 0 ∧ s.env 21 = a ∧ s.env 22 = .int .i64 l.length ∧
        ∃ i, i + q = l.length ∧ s.env 23 = .int .i64 (i : Nat) ∧ ∃ tg sS sR sH sW hid wid, L5 ask l.length l i tg sS sR sH sW hid wid s.mem)
      (fun e s => e = .exit 0 ∧ s.env 0 = a ∧ s.env 1 = hv ∧ s.env 6 = .ptr 1 0 ∧ s.env 7 = .ptr 2 0 ∧ s.env 9 = .ptr 6 0 ∧ s.env 10 = .ptr 8 0 ∧ ∃ tg sS sR sH sW hid wid, L5 ask l.length l l.length tg sS sR sH sW hid wid s.mem) l.length (by omega) (by
        refine ⟨by simp, by simp, by simp, by simp, by simp, by simp, by simp, by simp, 0, by simp, by simp, fun _ => 0, .nils, .nils, .nils, .nils, [], [], ?_⟩
        generalize hM : St.mem _ = M
        simp only [] at hM
        have hf : Fresh M := by
          intro id hid
          rw [← hM] at hid ⊢
          simp only [] at hid
          simp only [upd]
          rw [if_neg (by omega), if_neg (by omega), if_neg (by omega), if_neg (by omega), m0_mode, if_neg (by intro h; have := h.1; simp at this; omega)]
        refine ⟨⟨.inl ⟨by simp, rfl⟩, .inl ⟨by simp, rfl⟩, App.nil, App.nil, (fun p hp => by simp at hp), (fun p hp => by simp at hp), (fun id k e => by cases e), (fun id k e => by cases e), (fun id k e => by cases e), (fun id k e => by cases e), (fun p hp => by simp at hp), (fun p hp => by simp at hp), hf, by rw [← hM]; simp⟩, ?_, rfl, rfl⟩
        rw [← hM]
        exact ⟨by simp [upd], by simp [upd], by simp [upd], by simp [upd], by simp, by simp, by simp, by simp⟩) (by
        rintro q s ⟨e0, e1, e6, e7, e9, e10, e21, e22, i, hiq, e23, tg, sS, sR, sH, sW, hid, wid, H⟩
        by_cases hi : i < l.length
        · have hax := SL.indexAddr (P := Tryd.prog) Tryd.underlying22 sz58 eTlk_len ha (k := .i64) hi
          have hae : eTlk l[i] = [.int .i64 l[i].cat, .int .i64 l[i].draw, .int .i64 l[i].frames, .int .i64 l[i].air, .int .i64 l[i].to, .int .i64 l[i].power] := rfl
          have nx := H.q.nx
          have hfr : ∀ n, s.mem.mode (s.mem.next + n) = .dead := fun n => H.q.fresh _ (by omega)
          have n1 : ∀ n, ¬ 1 = s.mem.next + n := fun n => by omega
          have n2 : ∀ n, ¬ 2 = s.mem.next + n := fun n => by omega
          have n6 : ∀ n, ¬ 6 = s.mem.next + n := fun n => by omega
          have n8 : ∀ n, ¬ 8 = s.mem.next + n := fun n => by omega
          have m6 := H.b.m6
          have m8 := H.b.m8
          obtain ⟨c60, c61, c62, c63⟩ := H.b.c6
          obtain ⟨c80, c81⟩ := H.b.c8
          have hn1 : (0 : Int) < l.length - 1 := by omega
          have g7 := fun x (n : Int) (hn : 0 < n) (hn' : n < 2 ^ 31) m => c7 k (by omega) x n hn hn' m
          have gcat := fun m => g7 l[i].cat 4 (by omega) (by omega) m
          have gdraw := fun m => g7 l[i].draw 4096 (by omega) (by omega) m
          have gto := fun m => g7 l[i].to (l.length - 1) (by omega) (by omega) m
          have gfra := fun m => g7 l[i].frames 9 (by omega) (by omega) m
          have gair := fun m => g7 l[i].air 6 (by omega) (by omega) m
          have gpow := fun m => g7 l[i].power 100 (by omega) (by omega) m
          have hcat0 := Int.emod_nonneg l[i].cat (show (4 : Int) ≠ 0 by omega)
          have hcat1 := Int.emod_lt_of_pos l[i].cat (show (0 : Int) < 4 by omega)
          obtain ⟨cN, hcN⟩ : ∃ cN : Nat, l[i].cat % 4 = (cN : Int) := ⟨(l[i].cat % 4).toNat, by omega⟩
          have hdr0 : 0 ≤ l[i].draw % 4096 := Int.emod_nonneg _ (by omega)
          have hdr1 : l[i].draw % 4096 < 4096 := Int.emod_lt_of_pos _ (by omega)
          have g15 := fun m => c15 k (by omega) cN (l[i].draw % 4096) (by omega) hdr0 (by omega) m
          have wcat : IntKind.u8.wrap (cN : Int) = cN := IntWalk.u8_in _ (by omega)
          rw [hcN] at gcat
          have wl : IntKind.i64.wrap ((l.length : Int) - 1) = l.length - 1 := IntWalk.i64_in _ (by omega)
          have hto0 : 0 ≤ l[i].to % ((l.length : Int) - 1) := Int.emod_nonneg _ (by omega)
          have hto1 : l[i].to % ((l.length : Int) - 1) < l.length - 1 := Int.emod_lt_of_pos _ (by omega)
          obtain ⟨tN, htN⟩ : ∃ tN : Nat, l[i].to % ((l.length : Int) - 1) = (tN : Int) := ⟨(l[i].to % ((l.length : Int) - 1)).toNat, by omega⟩
          rw [htN] at gto
          have wto : IntKind.i64.wrap ((tN : Int) + 1) = ((tN + 1 : Nat) : Int) := IntWalk.i64_in _ (by omega)
          have hai0 : 0 ≤ l[i].air % 6 := Int.emod_nonneg _ (by omega)
          have hai1 : l[i].air % 6 < 6 := Int.emod_lt_of_pos _ (by omega)
          have wai : IntKind.i64.wrap (1 + l[i].air % 6) = 1 + l[i].air % 6 := IntWalk.i64_in _ (by omega)
          have wi : IntKind.i64.wrap ((i : Int) + 1) = ((i + 1 : Nat) : Int) := IntWalk.i64_in _ (by omega)
          simp only [Bk.enc, drawn] at g15
          have hconv : conOf l.length i l[i] = ⟨⟨cN, 0, l[i].draw % 4096 % (aft cN 0 + 1)⟩, l[i].frames % 9, 1 + l[i].air % 6, if i ≤ tN then tN + 1 else tN⟩ := by
            unfold conOf toOf drawn
            rw [hcN, htN]
            simp
          have hcons : (l.take (i + 1)).mapIdx (conOf l.length) = (l.take i).mapIdx (conOf l.length) ++ [conOf l.length i l[i]] := by
            rw [List.take_succ_eq_append_getElem hi, List.mapIdx_append]
            simp
            congr 1
            omega
          have hrads : (l.take (i + 1)).map radOf = (l.take i).map radOf ++ [radOf l[i]] := by
            rw [List.take_succ_eq_append_getElem hi, List.map_append]
            rfl
          obtain ⟨infb, i41, i42, i43'⟩ := inf4
          have i43 : infb.bytes ≤ 100000 := by omega
          obtain ⟨infi, i31, i32, i33'⟩ := inf3
          have i33 : infi.bytes ≤ 100000 := by omega
          by_cases hge : (i : Int) ≤ tN
          · have hge' : i ≤ tN := by omega
            rw [if_pos hge'] at hconv
            simp [e0, e1, e6, e7, e9, e10, e21, e22, e23, hi, hax, hae, ld58, hfr, gcat, gdraw, gto, gfra, gair, gpow, g15, wcat, wl, wto, wai, hge, hla, m6, m8, c60, c61, c80, c81, n6, n8, buildSliceA, zeros, List.range, List.range.loop]
            generalize hM2 : Mem.mk _ _ _ _ = M2
            have n2 : M2.next = s.mem.next + 52 := by rw [← hM2]
            have lo2 : ∀ id, id < s.mem.next → M2.cell id = s.mem.cell id ∧ M2.mode id = s.mem.mode id ∧ M2.siz id = s.mem.siz id := fun id h => by
              have h1 : ¬ id = s.mem.next + 4 := by omega
              have h2 : ¬ id = s.mem.next + 18 := by omega
              have h3 : ¬ id = s.mem.next + 48 := by omega
              rw [← hM2]
              refine ⟨?_, ?_, ?_⟩
              · funext o; simp [h1, h2, h3]
              · simp [upd, h1, h2, h3]
              · simp [upd, h1, h2, h3]
            have fr2 : ∀ id, s.mem.next ≤ id → id ≠ s.mem.next + 4 → id ≠ s.mem.next + 18 → id ≠ s.mem.next + 48 → M2.mode id = .dead := fun id h h1 h2 h3 => by
              rw [← hM2]
              simp [upd, h1, h2, h3]
              exact H.q.fresh id h
            have g2 : Grow s.mem M2 := ⟨by omega, fun id h => (lo2 id h).1, fun id h => (lo2 id h).2.1, fun id h => (lo2 id h).2.2, fun hd id hid => fr2 id (by omega) (by omega) (by omega) (by omega)⟩
            have hlenS : ((l.take i).mapIdx (conOf l.length)).length < 2 ^ 20 := by simp; omega
            obtain ⟨inf, i1, i2, i3⟩ := inf53
            obtain ⟨m3, a1, a2, a3, a4, a5⟩ := App.more (P := Tryd.prog) (t := 26) eCon_len Tryd.underlying26 i1 i2 i3 zc53 rfl (by omega) (H.q.aS.grow g2) (xid := s.mem.next + 48) (new := s.mem.next + 49) (v := conOf l.length i l[i])
              (by rw [← hM2]; simp) (fun o ho => by
                rw [hconv, ← hM2]
                have h7 : o = 0 ∨ o = 1 ∨ o = 2 ∨ o = 3 ∨ o = 4 ∨ o = 5 ∨ o = 6 := by omega
                rcases h7 with rfl | rfl | rfl | rfl | rfl | rfl | rfl <;> simp [eCon, Bk.enc]) (by omega) (fr2 _ (by omega) (by omega) (by omega) (by omega)) (by omega) hlenS
            have f3 : Fresh m3 := fun id hid => a5 id (by omega) (fr2 id (by omega) (by omega) (by omega) (by omega))
            have q3 := H.q.pushS g2 (by omega) a2 (by omega) a4 f3
            have b3 : B5 ask sS sR sH sW m3 := H.b.low fun id hid => by
              obtain ⟨x1, x2, x3⟩ := a4 id (by omega) (fun k e => by have := app_own H.q.aS e; omega)
              obtain ⟨y1, y2, y3⟩ := lo2 id (by omega)
              exact ⟨x1.trans y1, x2.trans y2⟩
            rw [← hcons] at q3
            generalize hk1 : ((l.take i).mapIdx (conOf l.length)).length + 1 = k1 at a1 a2 q3
            have m36 := b3.m6
            have m38 := b3.m8
            obtain ⟨d60, d61, d62, d63⟩ := b3.c6
            obtain ⟨d80, d81⟩ := b3.c8
            have tb := a4 (s.mem.next + 4) (by omega) (fun k e => by have := app_own H.q.aS e; omega)
            have p5 : m3.cell (s.mem.next + 4) 5 = some (.int .i64 l[i].power) := by
              rw [tb.1, ← hM2]; simp
            have pm : m3.mode (s.mem.next + 4) = .rw := by
              rw [tb.2.1, ← hM2]; simp [upd]
            have hfr3 : ∀ n, m3.mode (m3.next + n) = .dead := fun n => f3 _ (by omega)
            have n63 : ∀ n, ¬ 6 = m3.next + n := fun n => by omega
            have n83 : ∀ n, ¬ 8 = m3.next + n := fun n => by omega
            have n43 : ∀ n, ¬ s.mem.next + 4 = m3.next + n := fun n => by omega
            have n46 : ¬ s.mem.next + 4 = 6 := by omega
            simp [a1, e0, e9, e10, m36, m38, d60, d61, d80, d81, p5, pm, gpow, hfr3, n63, n83, n43, n46, buildSliceA, zeros, List.range, List.range.loop]
            generalize hM4 : Mem.mk _ _ _ _ = M4
            obtain ⟨m3', hm3'⟩ : ∃ m3' : Mem, m3' = { cell := fun i o => if i = 6 ∧ o = 0 then [AVal.own (s.mem.next + 49) 0 k1 7][o]? else m3.cell i o, mode := m3.mode, siz := m3.siz, next := m3.next } := ⟨_, rfl⟩
            have q3' := q3.low (m' := m3') (by rw [hm3']; exact Nat.le_refl _) (by rw [hm3']) (by rw [hm3']) (fun id hid => by
              rw [hm3']; funext o
              exact if_neg (by omega))
            have b3' : B5 ask (.own (s.mem.next + 49) 0 k1 7) sR sH sW m3' := by
              rw [hm3']
              exact ⟨b3.m1, b3.m2, b3.m6, b3.m8, by simpa using b3.c1, by simpa using b3.c2, by simpa using b3.c6.2, by simpa using b3.c8⟩
            have n3' : m3'.next = m3.next := by rw [hm3']
            have n4 : M4.next = m3.next + 10 := by rw [← hM4]
            have lo4 : ∀ id, id < m3.next → M4.cell id = m3'.cell id ∧ M4.mode id = m3'.mode id ∧ M4.siz id = m3'.siz id := fun id h => by
              have h1 : ¬ id = m3.next + 6 := by omega
              rw [← hM4, hm3']
              refine ⟨?_, ?_, ?_⟩
              · funext o; simp [h1]
              · simp [upd, h1]
              · simp [upd, h1]
            have fr4 : ∀ id, m3.next ≤ id → id ≠ m3.next + 6 → M4.mode id = .dead := fun id h h1 => by
              rw [← hM4]
              simp [upd, h1]
              exact f3 id h
            have g4 : Grow m3' M4 := ⟨by omega, fun id h => (lo4 id (by omega)).1, fun id h => (lo4 id (by omega)).2.1, fun id h => (lo4 id (by omega)).2.2, fun hd id hid => fr4 id (by omega) (by omega)⟩
            have hlenR : ((l.take i).map radOf).length < 2 ^ 20 := by simp; omega
            obtain ⟨infr, ir1, ir2, ir3⟩ := inf63
            obtain ⟨m5, a1', a2', a3', a4', a5'⟩ := App.more (P := Tryd.prog) (t := 30) eRad_len Tryd.underlying30 ir1 ir2 ir3 zc63 rfl (by omega) (q3'.aR.grow g4) (xid := m3.next + 6) (new := m3.next + 7) (v := radOf l[i])
              (by rw [← hM4]; simp) (fun o ho => by
                rw [← hM4]
                have h7 : o = 0 ∨ o = 1 ∨ o = 2 ∨ o = 3 := by omega
                rcases h7 with rfl | rfl | rfl | rfl <;> simp [eRad, radOf]) (by omega) (fr4 _ (by omega) (by omega)) (by omega) hlenR
            have f5 : Fresh m5 := fun id hid => a5' id (by omega) (fr4 id (by omega) (by omega))
            have q5 := q3'.pushR g4 (by omega) a2' (by omega) a4' f5
            have b5 : B5 ask (.own (s.mem.next + 49) 0 k1 7) sR sH sW m5 := b3'.low fun id hid => by
              obtain ⟨x1, x2, x3⟩ := a4' id (by omega) (fun k e => by have := app_own q3'.aR e; omega)
              obtain ⟨y1, y2, y3⟩ := lo4 id (by omega)
              exact ⟨x1.trans y1, x2.trans y2⟩
            rw [← hrads] at q5
            generalize hk2 : ((l.take i).map radOf).length + 1 = k2 at a1' a2' q5
            have m56 := b5.m6
            have m58 := b5.m8
            obtain ⟨u60, u61, u62, u63⟩ := b5.c6
            obtain ⟨u80, u81⟩ := b5.c8
            have hfr5 : ∀ n, m5.mode (m5.next + n) = .dead := fun n => f5 _ (by omega)
            have n65 : ∀ n, ¬ 6 = m5.next + n := fun n => by omega
            have n85 : ∀ n, ¬ 8 = m5.next + n := fun n => by omega
            have mk23 := fun m new hd => makeSlice_one (P := Tryd.prog) (t := 23) Tryd.underlying23 i41 i42 i43 zc4 .i64 .i64 l.length (by omega) m new hd
            have mk24 := fun m new hd => makeSlice_one (P := Tryd.prog) (t := 24) Tryd.underlying24 i31 i32 i33 zc3 .i64 .i64 l.length (by omega) m new hd
            simp [a1', e0, e9, e10, m56, m58, u60, u61, u80, u81, hfr5, n65, n85, hla, mk23, buildSliceA, zeros, List.range, List.range.loop]
            generalize hM7 : Mem.mk _ _ _ _ = M7
            obtain ⟨m5', hm5'⟩ : ∃ m5' : Mem, m5' = { cell := fun i o => if i = 8 ∧ o = 0 then [AVal.own (m3.next + 7) 0 k2 4][o]? else m5.cell i o, mode := m5.mode, siz := m5.siz, next := m5.next } := ⟨_, rfl⟩
            have q5' := q5.low (m' := m5') (by rw [hm5']; exact Nat.le_refl _) (by rw [hm5']) (by rw [hm5']) (fun id hid => by
              rw [hm5']; funext o
              exact if_neg (by omega))
            have b5' : B5 ask (.own (s.mem.next + 49) 0 k1 7) (.own (m3.next + 7) 0 k2 4) sH sW m5' := by
              rw [hm5']
              exact ⟨b5.m1, b5.m2, b5.m6, b5.m8, by simpa using b5.c1, by simpa using b5.c2, by simpa using b5.c6, by simpa using b5.c8.2⟩
            have n5' : m5'.next = m5.next := by rw [hm5']
            have n7 : M7.next = m5.next + 18 := by rw [← hM7]
            have lo7 : ∀ id, id < m5.next → M7.cell id = m5'.cell id ∧ M7.mode id = m5'.mode id ∧ M7.siz id = m5'.siz id := fun id h => by
              have h1 : ¬ id = m5.next + 4 := by omega
              have h2 : ¬ id = m5.next + 5 := by omega
              rw [← hM7, hm5']
              refine ⟨?_, ?_, ?_⟩
              · funext o; simp [h1, h2]
              · simp [upd, h1, h2]
              · simp [upd, h1, h2]
            have fr7 : ∀ id, m5.next ≤ id → id ≠ m5.next + 4 → id ≠ m5.next + 5 → M7.mode id = .dead := fun id h h1 h2 => by
              rw [← hM7]
              simp [upd, h1, h2]
              exact f5 id h
            obtain ⟨inf23', i231, i232, i233⟩ := inf23
            obtain ⟨inf24', i241, i242, i243⟩ := inf24
            have g7a : Grow m5' M7 := ⟨by omega, fun id h => (lo7 id (by omega)).1, fun id h => (lo7 id (by omega)).2.1, fun id h => (lo7 id (by omega)).2.2, fun hd id hid => fr7 id (by omega) (by omega) (by omega)⟩
            have hlH := H.lh
            have hlW := H.lw
            obtain ⟨m7, b1', b2', b3x, b4', b5x⟩ := App.more (P := Tryd.prog) (t := 27) (eOwn_len l.length) Tryd.underlying27 i231 i232 i233 zc23 rfl (by omega) (q5'.aH.grow g7a) (xid := m5.next + 5) (new := m5.next + 6) (v := m5.next + 4)
              (by rw [← hM7]; simp) (fun o ho => by
                rw [← hM7]
                have h7 : o = 0 := by omega
                subst h7
                simp [eOwn]) (by omega) (fr7 _ (by omega) (by omega) (by omega)) (by omega) (by omega)
            have f7 : ∀ id, m5.next + 7 ≤ id → m7.mode id = .dead := fun id hid => b5x id (by omega) (fr7 id (by omega) (by omega) (by omega))
            generalize hk3 : hid.length + 1 = k3 at b1' b2'
            have b7c : App (eOwn l.length) 1 (.own (m5.next + 6) 0 k3 1) (hid ++ [m5.next + 4]) 9 { m7 with next := m5.next + 7 } := by
              rcases b2' with ⟨_, q⟩ | ⟨id, q, q2, q3', q4, q5', q6⟩
              · cases q
              · cases q
                exact .inr ⟨m5.next + 6, rfl, q2, by show m5.next + 6 < m5.next + 7; omega, q4, q5', q6⟩
            have q7 := q5'.pushH (M2 := { M7 with next := m5.next + 7 }) (m3 := { m7 with next := m5.next + 7 }) (v := m5.next + 4) ⟨by show m5'.next ≤ m5.next + 7; omega, g7a.cell, g7a.mode, g7a.siz, fun hd id hid => fr7 id (by have : m5.next + 7 ≤ id := hid; omega) (by have : m5.next + 7 ≤ id := hid; omega) (by have : m5.next + 7 ≤ id := hid; omega)⟩ (by omega) ⟨by omega, by show m5.next + 4 < m5.next + 7; omega, by omega⟩ (by
                show M7.mode (m5.next + 4) = .rw
                rw [← hM7]; simp [upd]) (fun o ho => by
                show M7.cell (m5.next + 4) o = _
                rw [← hM7]
                simp [ho]) b7c (Nat.le_refl _) b4' f7
            have b7 : B5 ask (.own (s.mem.next + 49) 0 k1 7) (.own (m3.next + 7) 0 k2 4) sH sW m7 := b5'.low fun id hid => by
              obtain ⟨x1, x2, x3⟩ := b4' id (by omega) (fun k e => by have := app_own q5'.aH e; omega)
              obtain ⟨y1, y2, y3⟩ := lo7 id (by omega)
              exact ⟨x1.trans y1, x2.trans y2⟩
            have m76 := b7.m6
            have m78 := b7.m8
            obtain ⟨v60, v61, v62, v63⟩ := b7.c6
            obtain ⟨v80, v81⟩ := b7.c8
            have hd11 : m7.mode (m5.next + 11) = .dead := f7 _ (by omega)
            have hd12 : m7.mode (m5.next + 12) = .dead := f7 _ (by omega)
            have n611 : ¬ 6 = m5.next + 11 := by omega
            have n612 : ¬ 6 = m5.next + 12 := by omega
            have n811 : ¬ 8 = m5.next + 11 := by omega
            have n812 : ¬ 8 = m5.next + 12 := by omega
            have hidH : ∀ id ∈ idsOf sH, 9 ≤ id ∧ id < m5.next := fun id hid => by
              rcases q5'.aH with ⟨_, q⟩ | ⟨id', q, q2, q3x, _⟩
              · rw [q] at hid; simp [idsOf] at hid
              · rw [q] at hid; simp [idsOf] at hid; omega
            have h8H : 8 ∉ idsOf sH := fun h => by have := hidH _ h; omega
            have h11H : m5.next + 11 ∉ idsOf sH := fun h => by have := hidH _ h; omega
            have h12H : m5.next + 12 ∉ idsOf sH := fun h => by have := hidH _ h; omega
            have idsOwn : ∀ id a b c, idsOf (.own id a b c) = [id] := fun _ _ _ _ => rfl
            simp [b1', h8H, h11H, h12H, idsOwn, e0, e9, e10, m76, m78, v60, v61, v80, v81, hd11, hd12, n611, n612, n811, n812, hla, mk24, buildSliceA, zeros, List.range, List.range.loop]
            generalize hM8 : Mem.mk _ _ _ _ = M8
            have nm4 : ¬ m5.next = 4 := by omega
            have nm3 : ¬ m5.next = 3 := by omega
            have nm2 : ¬ m5.next = 2 := by omega
            have n8x : M8.next = m5.next + 18 := by rw [← hM8]; show m7.next = _; omega
            have lo8 : ∀ id, id ≠ m5.next + 11 → id ≠ m5.next + 12 → M8.cell id = m7.cell id ∧ M8.mode id = m7.mode id ∧ M8.siz id = m7.siz id := fun id h1 h2 => by
              rw [← hM8]
              refine ⟨?_, ?_, ?_⟩
              · funext o; simp [h1, h2]
              · simp [upd, h1, h2]
              · simp [upd, h1, h2]
            have fr8 : ∀ id, m5.next + 7 ≤ id → id ≠ m5.next + 11 → id ≠ m5.next + 12 → M8.mode id = .dead := fun id h h1 h2 => by
              rw [(lo8 id h1 h2).2.1]
              exact f7 id h
            have g8 : Grow { m7 with next := m5.next + 7 } M8 := ⟨by show m5.next + 7 ≤ M8.next; omega, fun id h => (lo8 id (by have : id < m5.next + 7 := h; omega) (by have : id < m5.next + 7 := h; omega)).1, fun id h => (lo8 id (by have : id < m5.next + 7 := h; omega) (by have : id < m5.next + 7 := h; omega)).2.1, fun id h => (lo8 id (by have : id < m5.next + 7 := h; omega) (by have : id < m5.next + 7 := h; omega)).2.2, fun hd id hid => fr8 id (by omega) (by omega) (by omega)⟩
            obtain ⟨m9, c1', c2', c3x, c4', c5x⟩ := App.more (P := Tryd.prog) (t := 31) (eOwn_len l.length) Tryd.underlying31 i241 i242 i243 zc24 rfl (by omega) (q7.aW.grow g8) (xid := m5.next + 12) (new := m5.next + 13) (v := m5.next + 11)
              (by rw [← hM8]; simp) (fun o ho => by
                rw [← hM8]
                have h7 : o = 0 := by omega
                subst h7
                simp [eOwn]) (by omega) (fr8 _ (by omega) (by omega) (by omega)) (by omega) (by omega)
            have f9 : Fresh m9 := fun id hid => c5x id (by omega) (fr8 id (by omega) (by omega) (by omega))
            have q9 := q7.pushW (M2 := M8) (m3 := m9) (v := m5.next + 11) g8 (by show m5.next + 7 ≤ m5.next + 13; omega) ⟨by show m5.next + 7 ≤ m5.next + 11; omega, by omega, by omega⟩ (by rw [← hM8]; simp [upd]) (fun o ho => by rw [← hM8]; simp [ho]) c2' (by omega) c4' f9
            generalize hk4 : wid.length + 1 = k4 at c1' c2' q9
            have b9 : B5 ask (.own (s.mem.next + 49) 0 k1 7) (.own (m3.next + 7) 0 k2 4) sH sW m9 := b7.low fun id hid => by
              obtain ⟨x1, x2, x3⟩ := c4' id (by omega) (fun k e => by have := app_own q7.aW e; omega)
              obtain ⟨y1, y2, y3⟩ := lo8 id (by omega) (by omega)
              exact ⟨x1.trans y1, x2.trans y2⟩
            have m96 := b9.m6
            have m98 := b9.m8
            obtain ⟨w60, w61, w62, w63⟩ := b9.c6
            obtain ⟨w80, w81⟩ := b9.c8
            simp [c1', nm4, nm3, nm2, e0, e1, e6, e7, e9, e10, e21, e22, e23, m96, m98, w60, w61, w80, w81, wi]
            refine ⟨_, _, ⟨rfl, rfl⟩, ?_⟩
            simp [e0, e1, e6, e7, e9, e10, e21, e22]
            generalize hM10 : Mem.mk _ _ _ _ = M10
            have n10 : m9.next ≤ M10.next := by rw [← hM10]; exact Nat.le_add_right _ _
            refine ⟨by omega, i + 1, by omega, by simp, _, .own (s.mem.next + 49) 0 k1 7, .own (m3.next + 7) 0 k2 4, .own (m5.next + 6) 0 k3 1, .own (m5.next + 13) 0 k4 1, hid ++ [m5.next + 4], wid ++ [m5.next + 11], q9.low n10 (by rw [← hM10]) (by rw [← hM10]) (fun id hid => ?_), ?_, by simp [hlH], by simp [hlW]⟩
            · rw [← hM10]
              funext o
              simp only []
              rw [if_neg (by omega), if_neg (by omega)]
            · rw [← hM10]
              exact ⟨b9.m1, b9.m2, b9.m6, b9.m8, by simpa using b9.c1, by simpa using b9.c2, by simpa using ⟨w60, w62, w63⟩, by simpa using w80⟩
          · have hge' : ¬ i ≤ tN := by omega
            rw [if_neg hge'] at hconv
            simp [e0, e1, e6, e7, e9, e10, e21, e22, e23, hi, hax, hae, ld58, hfr, gcat, gdraw, gto, gfra, gair, gpow, g15, wcat, wl, wto, wai, hge, hla, m6, m8, c60, c61, c80, c81, n6, n8, buildSliceA, zeros, List.range, List.range.loop]
            generalize hM2 : Mem.mk _ _ _ _ = M2
            have n2 : M2.next = s.mem.next + 49 := by rw [← hM2]
            have lo2 : ∀ id, id < s.mem.next → M2.cell id = s.mem.cell id ∧ M2.mode id = s.mem.mode id ∧ M2.siz id = s.mem.siz id := fun id h => by
              have h1 : ¬ id = s.mem.next + 4 := by omega
              have h2 : ¬ id = s.mem.next + 18 := by omega
              have h3 : ¬ id = s.mem.next + 45 := by omega
              rw [← hM2]
              refine ⟨?_, ?_, ?_⟩
              · funext o; simp [h1, h2, h3]
              · simp [upd, h1, h2, h3]
              · simp [upd, h1, h2, h3]
            have fr2 : ∀ id, s.mem.next ≤ id → id ≠ s.mem.next + 4 → id ≠ s.mem.next + 18 → id ≠ s.mem.next + 45 → M2.mode id = .dead := fun id h h1 h2 h3 => by
              rw [← hM2]
              simp [upd, h1, h2, h3]
              exact H.q.fresh id h
            have g2 : Grow s.mem M2 := ⟨by omega, fun id h => (lo2 id h).1, fun id h => (lo2 id h).2.1, fun id h => (lo2 id h).2.2, fun hd id hid => fr2 id (by omega) (by omega) (by omega) (by omega)⟩
            have hlenS : ((l.take i).mapIdx (conOf l.length)).length < 2 ^ 20 := by simp; omega
            obtain ⟨inf, i1, i2, i3⟩ := inf53
            obtain ⟨m3, a1, a2, a3, a4, a5⟩ := App.more (P := Tryd.prog) (t := 26) eCon_len Tryd.underlying26 i1 i2 i3 zc53 rfl (by omega) (H.q.aS.grow g2) (xid := s.mem.next + 45) (new := s.mem.next + 46) (v := conOf l.length i l[i])
              (by rw [← hM2]; simp) (fun o ho => by
                rw [hconv, ← hM2]
                have h7 : o = 0 ∨ o = 1 ∨ o = 2 ∨ o = 3 ∨ o = 4 ∨ o = 5 ∨ o = 6 := by omega
                rcases h7 with rfl | rfl | rfl | rfl | rfl | rfl | rfl <;> simp [eCon, Bk.enc]) (by omega) (fr2 _ (by omega) (by omega) (by omega) (by omega)) (by omega) hlenS
            have f3 : Fresh m3 := fun id hid => a5 id (by omega) (fr2 id (by omega) (by omega) (by omega) (by omega))
            have q3 := H.q.pushS g2 (by omega) a2 (by omega) a4 f3
            have b3 : B5 ask sS sR sH sW m3 := H.b.low fun id hid => by
              obtain ⟨x1, x2, x3⟩ := a4 id (by omega) (fun k e => by have := app_own H.q.aS e; omega)
              obtain ⟨y1, y2, y3⟩ := lo2 id (by omega)
              exact ⟨x1.trans y1, x2.trans y2⟩
            rw [← hcons] at q3
            generalize hk1 : ((l.take i).mapIdx (conOf l.length)).length + 1 = k1 at a1 a2 q3
            have m36 := b3.m6
            have m38 := b3.m8
            obtain ⟨d60, d61, d62, d63⟩ := b3.c6
            obtain ⟨d80, d81⟩ := b3.c8
            have tb := a4 (s.mem.next + 4) (by omega) (fun k e => by have := app_own H.q.aS e; omega)
            have p5 : m3.cell (s.mem.next + 4) 5 = some (.int .i64 l[i].power) := by
              rw [tb.1, ← hM2]; simp
            have pm : m3.mode (s.mem.next + 4) = .rw := by
              rw [tb.2.1, ← hM2]; simp [upd]
            have hfr3 : ∀ n, m3.mode (m3.next + n) = .dead := fun n => f3 _ (by omega)
            have n63 : ∀ n, ¬ 6 = m3.next + n := fun n => by omega
            have n83 : ∀ n, ¬ 8 = m3.next + n := fun n => by omega
            have n43 : ∀ n, ¬ s.mem.next + 4 = m3.next + n := fun n => by omega
            have n46 : ¬ s.mem.next + 4 = 6 := by omega
            simp [a1, e0, e9, e10, m36, m38, d60, d61, d80, d81, p5, pm, gpow, hfr3, n63, n83, n43, n46, buildSliceA, zeros, List.range, List.range.loop]
            generalize hM4 : Mem.mk _ _ _ _ = M4
            obtain ⟨m3', hm3'⟩ : ∃ m3' : Mem, m3' = { cell := fun i o => if i = 6 ∧ o = 0 then [AVal.own (s.mem.next + 46) 0 k1 7][o]? else m3.cell i o, mode := m3.mode, siz := m3.siz, next := m3.next } := ⟨_, rfl⟩
            have q3' := q3.low (m' := m3') (by rw [hm3']; exact Nat.le_refl _) (by rw [hm3']) (by rw [hm3']) (fun id hid => by
              rw [hm3']; funext o
              exact if_neg (by omega))
            have b3' : B5 ask (.own (s.mem.next + 46) 0 k1 7) sR sH sW m3' := by
              rw [hm3']
              exact ⟨b3.m1, b3.m2, b3.m6, b3.m8, by simpa using b3.c1, by simpa using b3.c2, by simpa using b3.c6.2, by simpa using b3.c8⟩
            have n3' : m3'.next = m3.next := by rw [hm3']
            have n4 : M4.next = m3.next + 10 := by rw [← hM4]
            have lo4 : ∀ id, id < m3.next → M4.cell id = m3'.cell id ∧ M4.mode id = m3'.mode id ∧ M4.siz id = m3'.siz id := fun id h => by
              have h1 : ¬ id = m3.next + 6 := by omega
              rw [← hM4, hm3']
              refine ⟨?_, ?_, ?_⟩
              · funext o; simp [h1]
              · simp [upd, h1]
              · simp [upd, h1]
            have fr4 : ∀ id, m3.next ≤ id → id ≠ m3.next + 6 → M4.mode id = .dead := fun id h h1 => by
              rw [← hM4]
              simp [upd, h1]
              exact f3 id h
            have g4 : Grow m3' M4 := ⟨by omega, fun id h => (lo4 id (by omega)).1, fun id h => (lo4 id (by omega)).2.1, fun id h => (lo4 id (by omega)).2.2, fun hd id hid => fr4 id (by omega) (by omega)⟩
            have hlenR : ((l.take i).map radOf).length < 2 ^ 20 := by simp; omega
            obtain ⟨infr, ir1, ir2, ir3⟩ := inf63
            obtain ⟨m5, a1', a2', a3', a4', a5'⟩ := App.more (P := Tryd.prog) (t := 30) eRad_len Tryd.underlying30 ir1 ir2 ir3 zc63 rfl (by omega) (q3'.aR.grow g4) (xid := m3.next + 6) (new := m3.next + 7) (v := radOf l[i])
              (by rw [← hM4]; simp) (fun o ho => by
                rw [← hM4]
                have h7 : o = 0 ∨ o = 1 ∨ o = 2 ∨ o = 3 := by omega
                rcases h7 with rfl | rfl | rfl | rfl <;> simp [eRad, radOf]) (by omega) (fr4 _ (by omega) (by omega)) (by omega) hlenR
            have f5 : Fresh m5 := fun id hid => a5' id (by omega) (fr4 id (by omega) (by omega))
            have q5 := q3'.pushR g4 (by omega) a2' (by omega) a4' f5
            have b5 : B5 ask (.own (s.mem.next + 46) 0 k1 7) sR sH sW m5 := b3'.low fun id hid => by
              obtain ⟨x1, x2, x3⟩ := a4' id (by omega) (fun k e => by have := app_own q3'.aR e; omega)
              obtain ⟨y1, y2, y3⟩ := lo4 id (by omega)
              exact ⟨x1.trans y1, x2.trans y2⟩
            rw [← hrads] at q5
            generalize hk2 : ((l.take i).map radOf).length + 1 = k2 at a1' a2' q5
            have m56 := b5.m6
            have m58 := b5.m8
            obtain ⟨u60, u61, u62, u63⟩ := b5.c6
            obtain ⟨u80, u81⟩ := b5.c8
            have hfr5 : ∀ n, m5.mode (m5.next + n) = .dead := fun n => f5 _ (by omega)
            have n65 : ∀ n, ¬ 6 = m5.next + n := fun n => by omega
            have n85 : ∀ n, ¬ 8 = m5.next + n := fun n => by omega
            have mk23 := fun m new hd => makeSlice_one (P := Tryd.prog) (t := 23) Tryd.underlying23 i41 i42 i43 zc4 .i64 .i64 l.length (by omega) m new hd
            have mk24 := fun m new hd => makeSlice_one (P := Tryd.prog) (t := 24) Tryd.underlying24 i31 i32 i33 zc3 .i64 .i64 l.length (by omega) m new hd
            simp [a1', e0, e9, e10, m56, m58, u60, u61, u80, u81, hfr5, n65, n85, hla, mk23, buildSliceA, zeros, List.range, List.range.loop]
            generalize hM7 : Mem.mk _ _ _ _ = M7
            obtain ⟨m5', hm5'⟩ : ∃ m5' : Mem, m5' = { cell := fun i o => if i = 8 ∧ o = 0 then [AVal.own (m3.next + 7) 0 k2 4][o]? else m5.cell i o, mode := m5.mode, siz := m5.siz, next := m5.next } := ⟨_, rfl⟩
            have q5' := q5.low (m' := m5') (by rw [hm5']; exact Nat.le_refl _) (by rw [hm5']) (by rw [hm5']) (fun id hid => by
              rw [hm5']; funext o
              exact if_neg (by omega))
            have b5' : B5 ask (.own (s.mem.next + 46) 0 k1 7) (.own (m3.next + 7) 0 k2 4) sH sW m5' := by
              rw [hm5']
              exact ⟨b5.m1, b5.m2, b5.m6, b5.m8, by simpa using b5.c1, by simpa using b5.c2, by simpa using b5.c6, by simpa using b5.c8.2⟩
            have n5' : m5'.next = m5.next := by rw [hm5']
            have n7 : M7.next = m5.next + 18 := by rw [← hM7]
            have lo7 : ∀ id, id < m5.next → M7.cell id = m5'.cell id ∧ M7.mode id = m5'.mode id ∧ M7.siz id = m5'.siz id := fun id h => by
              have h1 : ¬ id = m5.next + 4 := by omega
              have h2 : ¬ id = m5.next + 5 := by omega
              rw [← hM7, hm5']
              refine ⟨?_, ?_, ?_⟩
              · funext o; simp [h1, h2]
              · simp [upd, h1, h2]
              · simp [upd, h1, h2]
            have fr7 : ∀ id, m5.next ≤ id → id ≠ m5.next + 4 → id ≠ m5.next + 5 → M7.mode id = .dead := fun id h h1 h2 => by
              rw [← hM7]
              simp [upd, h1, h2]
              exact f5 id h
            obtain ⟨inf23', i231, i232, i233⟩ := inf23
            obtain ⟨inf24', i241, i242, i243⟩ := inf24
            have g7a : Grow m5' M7 := ⟨by omega, fun id h => (lo7 id (by omega)).1, fun id h => (lo7 id (by omega)).2.1, fun id h => (lo7 id (by omega)).2.2, fun hd id hid => fr7 id (by omega) (by omega) (by omega)⟩
            have hlH := H.lh
            have hlW := H.lw
            obtain ⟨m7, b1', b2', b3x, b4', b5x⟩ := App.more (P := Tryd.prog) (t := 27) (eOwn_len l.length) Tryd.underlying27 i231 i232 i233 zc23 rfl (by omega) (q5'.aH.grow g7a) (xid := m5.next + 5) (new := m5.next + 6) (v := m5.next + 4)
              (by rw [← hM7]; simp) (fun o ho => by
                rw [← hM7]
                have h7 : o = 0 := by omega
                subst h7
                simp [eOwn]) (by omega) (fr7 _ (by omega) (by omega) (by omega)) (by omega) (by omega)
            have f7 : ∀ id, m5.next + 7 ≤ id → m7.mode id = .dead := fun id hid => b5x id (by omega) (fr7 id (by omega) (by omega) (by omega))
            generalize hk3 : hid.length + 1 = k3 at b1' b2'
            have b7c : App (eOwn l.length) 1 (.own (m5.next + 6) 0 k3 1) (hid ++ [m5.next + 4]) 9 { m7 with next := m5.next + 7 } := by
              rcases b2' with ⟨_, q⟩ | ⟨id, q, q2, q3', q4, q5', q6⟩
              · cases q
              · cases q
                exact .inr ⟨m5.next + 6, rfl, q2, by show m5.next + 6 < m5.next + 7; omega, q4, q5', q6⟩
            have q7 := q5'.pushH (M2 := { M7 with next := m5.next + 7 }) (m3 := { m7 with next := m5.next + 7 }) (v := m5.next + 4) ⟨by show m5'.next ≤ m5.next + 7; omega, g7a.cell, g7a.mode, g7a.siz, fun hd id hid => fr7 id (by have : m5.next + 7 ≤ id := hid; omega) (by have : m5.next + 7 ≤ id := hid; omega) (by have : m5.next + 7 ≤ id := hid; omega)⟩ (by omega) ⟨by omega, by show m5.next + 4 < m5.next + 7; omega, by omega⟩ (by
                show M7.mode (m5.next + 4) = .rw
                rw [← hM7]; simp [upd]) (fun o ho => by
                show M7.cell (m5.next + 4) o = _
                rw [← hM7]
                simp [ho]) b7c (Nat.le_refl _) b4' f7
            have b7 : B5 ask (.own (s.mem.next + 46) 0 k1 7) (.own (m3.next + 7) 0 k2 4) sH sW m7 := b5'.low fun id hid => by
              obtain ⟨x1, x2, x3⟩ := b4' id (by omega) (fun k e => by have := app_own q5'.aH e; omega)
              obtain ⟨y1, y2, y3⟩ := lo7 id (by omega)
              exact ⟨x1.trans y1, x2.trans y2⟩
            have m76 := b7.m6
            have m78 := b7.m8
            obtain ⟨v60, v61, v62, v63⟩ := b7.c6
            obtain ⟨v80, v81⟩ := b7.c8
            have hd11 : m7.mode (m5.next + 11) = .dead := f7 _ (by omega)
            have hd12 : m7.mode (m5.next + 12) = .dead := f7 _ (by omega)
            have n611 : ¬ 6 = m5.next + 11 := by omega
            have n612 : ¬ 6 = m5.next + 12 := by omega
            have n811 : ¬ 8 = m5.next + 11 := by omega
            have n812 : ¬ 8 = m5.next + 12 := by omega
            have hidH : ∀ id ∈ idsOf sH, 9 ≤ id ∧ id < m5.next := fun id hid => by
              rcases q5'.aH with ⟨_, q⟩ | ⟨id', q, q2, q3x, _⟩
              · rw [q] at hid; simp [idsOf] at hid
              · rw [q] at hid; simp [idsOf] at hid; omega
            have h8H : 8 ∉ idsOf sH := fun h => by have := hidH _ h; omega
            have h11H : m5.next + 11 ∉ idsOf sH := fun h => by have := hidH _ h; omega
            have h12H : m5.next + 12 ∉ idsOf sH := fun h => by have := hidH _ h; omega
            have idsOwn : ∀ id a b c, idsOf (.own id a b c) = [id] := fun _ _ _ _ => rfl
            simp [b1', h8H, h11H, h12H, idsOwn, e0, e9, e10, m76, m78, v60, v61, v80, v81, hd11, hd12, n611, n612, n811, n812, hla, mk24, buildSliceA, zeros, List.range, List.range.loop]
            generalize hM8 : Mem.mk _ _ _ _ = M8
            have nm4 : ¬ m5.next = 4 := by omega
            have nm3 : ¬ m5.next = 3 := by omega
            have nm2 : ¬ m5.next = 2 := by omega
            have n8x : M8.next = m5.next + 18 := by rw [← hM8]; show m7.next = _; omega
            have lo8 : ∀ id, id ≠ m5.next + 11 → id ≠ m5.next + 12 → M8.cell id = m7.cell id ∧ M8.mode id = m7.mode id ∧ M8.siz id = m7.siz id := fun id h1 h2 => by
              rw [← hM8]
              refine ⟨?_, ?_, ?_⟩
              · funext o; simp [h1, h2]
              · simp [upd, h1, h2]
              · simp [upd, h1, h2]
            have fr8 : ∀ id, m5.next + 7 ≤ id → id ≠ m5.next + 11 → id ≠ m5.next + 12 → M8.mode id = .dead := fun id h h1 h2 => by
              rw [(lo8 id h1 h2).2.1]
              exact f7 id h
            have g8 : Grow { m7 with next := m5.next + 7 } M8 := ⟨by show m5.next + 7 ≤ M8.next; omega, fun id h => (lo8 id (by have : id < m5.next + 7 := h; omega) (by have : id < m5.next + 7 := h; omega)).1, fun id h => (lo8 id (by have : id < m5.next + 7 := h; omega) (by have : id < m5.next + 7 := h; omega)).2.1, fun id h => (lo8 id (by have : id < m5.next + 7 := h; omega) (by have : id < m5.next + 7 := h; omega)).2.2, fun hd id hid => fr8 id (by omega) (by omega) (by omega)⟩
            obtain ⟨m9, c1', c2', c3x, c4', c5x⟩ := App.more (P := Tryd.prog) (t := 31) (eOwn_len l.length) Tryd.underlying31 i241 i242 i243 zc24 rfl (by omega) (q7.aW.grow g8) (xid := m5.next + 12) (new := m5.next + 13) (v := m5.next + 11)
              (by rw [← hM8]; simp) (fun o ho => by
                rw [← hM8]
                have h7 : o = 0 := by omega
                subst h7
                simp [eOwn]) (by omega) (fr8 _ (by omega) (by omega) (by omega)) (by omega) (by omega)
            have f9 : Fresh m9 := fun id hid => c5x id (by omega) (fr8 id (by omega) (by omega) (by omega))
            have q9 := q7.pushW (M2 := M8) (m3 := m9) (v := m5.next + 11) g8 (by show m5.next + 7 ≤ m5.next + 13; omega) ⟨by show m5.next + 7 ≤ m5.next + 11; omega, by omega, by omega⟩ (by rw [← hM8]; simp [upd]) (fun o ho => by rw [← hM8]; simp [ho]) c2' (by omega) c4' f9
            generalize hk4 : wid.length + 1 = k4 at c1' c2' q9
            have b9 : B5 ask (.own (s.mem.next + 46) 0 k1 7) (.own (m3.next + 7) 0 k2 4) sH sW m9 := b7.low fun id hid => by
              obtain ⟨x1, x2, x3⟩ := c4' id (by omega) (fun k e => by have := app_own q7.aW e; omega)
              obtain ⟨y1, y2, y3⟩ := lo8 id (by omega) (by omega)
              exact ⟨x1.trans y1, x2.trans y2⟩
            have m96 := b9.m6
            have m98 := b9.m8
            obtain ⟨w60, w61, w62, w63⟩ := b9.c6
            obtain ⟨w80, w81⟩ := b9.c8
            simp [c1', nm4, nm3, nm2, e0, e1, e6, e7, e9, e10, e21, e22, e23, m96, m98, w60, w61, w80, w81, wi]
            refine ⟨_, _, ⟨rfl, rfl⟩, ?_⟩
            simp [e0, e1, e6, e7, e9, e10, e21, e22]
            generalize hM10 : Mem.mk _ _ _ _ = M10
            have n10 : m9.next ≤ M10.next := by rw [← hM10]; exact Nat.le_add_right _ _
            refine ⟨by omega, i + 1, by omega, by simp, _, .own (s.mem.next + 46) 0 k1 7, .own (m3.next + 7) 0 k2 4, .own (m5.next + 6) 0 k3 1, .own (m5.next + 13) 0 k4 1, hid ++ [m5.next + 4], wid ++ [m5.next + 11], q9.low n10 (by rw [← hM10]) (by rw [← hM10]) (fun id hid => ?_), ?_, by simp [hlH], by simp [hlW]⟩
            · rw [← hM10]
              funext o
              simp only []
              rw [if_neg (by omega), if_neg (by omega)]
            · rw [← hM10]
              exact ⟨b9.m1, b9.m2, b9.m6, b9.m8, by simpa using b9.c1, by simpa using b9.c2, by simpa using ⟨w60, w62, w63⟩, by simpa using w80⟩
        · have : i = l.length := by omega
          subst this
          simp [e0, e1, e6, e7, e9, e10, e21, e22, e23]
          exact ⟨tg, sS, sR, sH, sW, hid, wid, H.q.grow (Grow.bump _ _), H.b.grow H.q.nx (Grow.bump _ _), H.lh, H.lw⟩)
    obtain ⟨rfl, e0, e1, e6, e7, e9, e10, tg, sS, sR, sH, sW, hid, wid, H⟩ := hp
    have hlH := H.lh
    have hlW := H.lw
    have hQ := H.q
    have hB := H.b
    rw [List.take_length] at hQ
    clear H
    have hhl' := SL.len (P := Tryd.prog) Tryd.underlying23 hh
    have wi' : ∀ i : Nat, i < l.length → IntKind.i64.wrap ((i : Int) + 1) = ((i + 1 : Nat) : Int) := fun i hi => IntWalk.i64_in _ (by omega)
    have own27 : ∀ (id q : Nat), q < l.length → indexAddrA Tryd.prog 27 (.own id 0 l.length 1) (.int .i64 q) = some (.ptr id q) := fun id q hq => by simp [indexAddrA, hq]
    have own23 : ∀ (id q : Nat), q < l.length → indexAddrA Tryd.prog 23 (.own id 0 l.length 1) (.int .i64 q) = some (.ptr id q) := fun id q hq => by simp [indexAddrA, hq]
    have own31 : ∀ (id q : Nat), q < l.length → indexAddrA Tryd.prog 31 (.own id 0 l.length 1) (.int .i64 q) = some (.ptr id q) := fun id q hq => by simp [indexAddrA, hq]
    have own24 : ∀ (id q : Nat), q < l.length → indexAddrA Tryd.prog 24 (.own id 0 l.length 1) (.int .i64 q) = some (.ptr id q) := fun id q hq => by simp [indexAddrA, hq]
    simp [e0, e1, e6, e7, e9, e10, hla]
    generalize hl' : cCode C _ _ _ (.loop _) _ = r
    obtain ⟨e, s2, rfl, he, hp⟩ := loop_rule hl' (fun q s => s.env 0 = a ∧ s.env 1 = hv ∧ s.env 6 = .ptr 1 0 ∧ s.env 7 = .ptr 2 0 ∧ s.env 9 = .ptr 6 0 ∧ s.env 10 = .ptr 8 0 ∧ s.env 96 = .int .i64 l.length ∧
        ∃ i, i + q = l.length ∧ s.env 97 = .int .i64 (i : Nat) ∧ B5 ask sS sR sH sW s.mem ∧ Q5 l.length tg sS sR sH sW (l.mapIdx (conOf l.length)) (l.map radOf) hid wid (hmT l.length hd i 0) (wmT l.length hd i 0) s.mem)
      (fun e s => e = .exit 2 ∧ s.env 6 = .ptr 1 0 ∧ s.env 7 = .ptr 2 0 ∧ s.env 9 = .ptr 6 0 ∧ s.env 10 = .ptr 8 0 ∧ B5 ask sS sR sH sW s.mem ∧ Q5 l.length tg sS sR sH sW (l.mapIdx (conOf l.length)) (l.map radOf) hid wid (hmT l.length hd l.length 0) (wmT l.length hd l.length 0) s.mem) l.length (by omega) (by
        refine ⟨by simp [e0], by simp [e1], by simp [e6], by simp [e7], by simp [e9], by simp [e10], by simp, 0, by simp, by simp, hB.grow hQ.nx (Grow.bump _ _), (hQ.grow (Grow.bump _ _)).congr (fun p hp o ho => ?_) (fun p hp o ho => ?_)⟩
        · simp [hmT]
        · simp [wmT]) (by
        rintro q s ⟨e0, e1, e6, e7, e9, e10, e96, i, hiq, e97, hB, hQ⟩
        by_cases hi : i < l.length
        · simp [e0, e1, e6, e7, e9, e10, e96, e97, hi, hla]
          generalize hl2 : cCode C _ _ _ (.loop _) _ = r2
          obtain ⟨e, s3, rfl, he, hp⟩ := loop_rule hl2 (fun q s => s.env 0 = a ∧ s.env 1 = hv ∧ s.env 6 = .ptr 1 0 ∧ s.env 7 = .ptr 2 0 ∧ s.env 9 = .ptr 6 0 ∧ s.env 10 = .ptr 8 0 ∧ s.env 96 = .int .i64 l.length ∧ s.env 97 = .int .i64 (i : Nat) ∧ s.env 16 = .int .i64 (i : Nat) ∧ s.env 101 = .int .i64 l.length ∧
              ∃ j, j + q = l.length ∧ s.env 102 = .int .i64 (j : Nat) ∧ B5 ask sS sR sH sW s.mem ∧ Q5 l.length tg sS sR sH sW (l.mapIdx (conOf l.length)) (l.map radOf) hid wid (hmT l.length hd i j) (wmT l.length hd i j) s.mem)
            (fun e s => e = .exit 4 ∧ s.env 0 = a ∧ s.env 1 = hv ∧ s.env 6 = .ptr 1 0 ∧ s.env 7 = .ptr 2 0 ∧ s.env 9 = .ptr 6 0 ∧ s.env 10 = .ptr 8 0 ∧ s.env 96 = .int .i64 l.length ∧ s.env 97 = .int .i64 (i : Nat) ∧ B5 ask sS sR sH sW s.mem ∧ Q5 l.length tg sS sR sH sW (l.mapIdx (conOf l.length)) (l.map radOf) hid wid (hmT l.length hd i l.length) (wmT l.length hd i l.length) s.mem) l.length (by omega) (by
              refine ⟨by simp [e0], by simp [e1], by simp [e6], by simp [e7], by simp [e9], by simp [e10], by simp [e96], by simp [e97], by simp, by simp, 0, by simp, by simp, hB.grow hQ.nx (Grow.bump _ _), hQ.grow (Grow.bump _ _)⟩) (by
              rintro q s ⟨e0, e1, e6, e7, e9, e10, e96, e97, e16, e101, j, hjq, e102, hB, hQ⟩
              by_cases hj : j < l.length
              · obtain ⟨A, hA⟩ : ∃ A, A = i * l.length := ⟨_, rfl⟩
                obtain ⟨K, hK⟩ : ∃ K, K = i * l.length + j := ⟨_, rfl⟩
                have hA2 : A ≤ 36 := by rw [hA]; exact Nat.mul_le_mul (show i ≤ 6 by omega) (show l.length ≤ 6 by omega)
                have wk1 : IntKind.i64.wrap ((i : Int) * l.length) = (A : Int) := by
                  rw [hA, Int.natCast_mul]
                  refine IntWalk.i64_in _ ?_
                  rw [← Int.natCast_mul, ← hA]
                  omega
                have wk2 : IntKind.i64.wrap ((A : Int) + j) = (K : Int) := by
                  rw [hK, ← hA]
                  exact (IntWalk.i64_in _ (by omega)).trans (by omega)
                have wj := wi' j hj
                have m6 := hB.m6
                have m8 := hB.m8
                obtain ⟨c60, c61, c62, c63⟩ := hB.c6
                obtain ⟨c80, c81⟩ := hB.c8
                have hjh : j < hid.length := by omega
                have hiw : i < wid.length := by omega
                obtain ⟨hb, g1, g2, g3, mb, g5⟩ := hQ.aH.get (eOwn_len l.length) hjh
                have cb := g5 0 (by omega)
                simp [eOwn] at cb
                obtain ⟨wb, w1, w2, w3, mb2, w5⟩ := hQ.aW.get (eOwn_len l.length) hiw
                have cb2 := w5 0 (by omega)
                simp [eOwn] at cb2
                obtain ⟨⟨r1, r2⟩, mrow, crow'⟩ := hQ.rH j hjh
                have crow := crow' i hi
                obtain ⟨⟨x1, x2⟩, mrow2, crow2'⟩ := hQ.rW i hiw
                have crow2 := crow2' j hj
                have tH := hQ.tH hb _ g1
                have tW := hQ.tW wb _ w1
                have uH := hQ.uH j hjh
                have uW := hQ.uW i hiw
                have n6r : ¬ 6 = hid[j] := by omega
                have n8r : ¬ 8 = hid[j] := by omega
                have nbr : ¬ hb = hid[j] := fun e => by rw [← e, tH] at uH; omega
                have nb2r : ¬ wb = hid[j] := fun e => by rw [← e, tW] at uH; omega
                have nrr : ¬ wid[i] = hid[j] := fun e => by rw [← e, uW] at uH; omega
                rw [g1, hlH] at c61
                rw [w1, hlW] at c81
                have fin1 : ∀ (b : Bool) (M : Mem), hmF l.length hd j i = b → wmF l.length hd i j = 0 → s.mem.next ≤ M.next → M.mode = s.mem.mode → M.siz = s.mem.siz → (∀ id o, ¬ (id = hid[j] ∧ o = i) → M.cell id o = s.mem.cell id o) → M.cell hid[j] i = some (.bool b) →
                    0 < q ∧ ∃ j', j' + (q - 1) = l.length ∧ (j : Int) + 1 = (j' : Int) ∧ B5 ask sS sR sH sW M ∧ Q5 l.length tg sS sR sH sW (l.mapIdx (conOf l.length)) (l.map radOf) hid wid (hmT l.length hd i j') (wmT l.length hd i j') M := by
                  intro b M h1 h2 h3 h4 h5 h6 h7
                  refine ⟨by omega, j + 1, by omega, by omega, hB.low (fun id hid' => ⟨?_, by rw [h4]⟩), ?_⟩
                  · funext o
                    exact h6 id o (by omega)
                  · rw [hmT_next, wmT_same _ _ _ _ h2, h1]
                    exact hQ.setH b hjh h3 h4 h5 h6 h7
                have fin2 : ∀ (b : Bool) (M : Mem), hmF l.length hd j i = b → wmF l.length hd i j = 600 → s.mem.next ≤ M.next → M.mode = s.mem.mode → M.siz = s.mem.siz → (∀ id o, ¬ (id = hid[j] ∧ o = i) → ¬ (id = wid[i] ∧ o = j) → M.cell id o = s.mem.cell id o) → M.cell hid[j] i = some (.bool b) → M.cell wid[i] j = some (.int .i64 600) →
                    0 < q ∧ ∃ j', j' + (q - 1) = l.length ∧ (j : Int) + 1 = (j' : Int) ∧ B5 ask sS sR sH sW M ∧ Q5 l.length tg sS sR sH sW (l.mapIdx (conOf l.length)) (l.map radOf) hid wid (hmT l.length hd i j') (wmT l.length hd i j') M := by
                  intro b M h1 h2 h3 h4 h5 h6 h7 h8
                  refine ⟨by omega, j + 1, by omega, by omega, hB.low (fun id hid' => ⟨?_, by rw [h4]⟩), ?_⟩
                  · funext o
                    exact h6 id o (by omega) (by omega)
                  · rw [hmT_next, wmT_next, h1, h2]
                    have q1 := hQ.setH (m' := { cell := fun id o => if id = wid[i] ∧ o = j then s.mem.cell id o else M.cell id o, mode := M.mode, siz := M.siz, next := M.next }) b hjh h3 h4 h5 (fun id o h => by
                      simp only []
                      split
                      · rfl
                      · rename_i h'; exact h6 id o h h') (by
                      simp only []
                      rw [if_neg (fun e => nrr e.1.symm)]
                      exact h7)
                    exact q1.setW 600 hiw (Nat.le_refl _) rfl rfl (fun id o h => (if_neg h).symm) h8
                by_cases hij : i = j
                · have hijz : ((i : Int) != j) = false := by simp [hij]
                  have hF : hmF l.length hd j i = false := by simp [hmF, hij]
                  have hW : wmF l.length hd i j = 0 := by simp [wmF, hij]
                  simp [e0, e1, e6, e7, e9, e10, e96, e97, e16, e101, e102, hj, hla, wk1, wk2, m6, c61, mb, cb, own27 hb j hj, own23 _ i hi, mrow, crow, wj, hijz]
                  exact fin1 false _ hF hW (Nat.le_add_right _ _) rfl rfl (fun id o h => if_neg (by omega)) (by simp)
                · have hijz : ((i : Int) != j) = true := by
                    have : ¬ (i : Int) = j := by omega
                    simp [this]
                  by_cases hkl : K < hd.length
                  · have hkx := SL.indexAddr (P := Tryd.prog) Tryd.underlying23 sz4 eBool_len hh (k := .i64) hkl
                    cases hv' : hd[K] with
                    | true =>
                      have hF : hmF l.length hd j i = true := by simp [hmF, hij, ← hK, hkl, hv']
                      have hW : wmF l.length hd i j = 0 := by simp [wmF, hF]
                      simp [e0, e1, e6, e7, e9, e10, e96, e97, e16, e101, e102, hj, hla, wk1, wk2, m6, c61, mb, cb, own27 hb j hj, own23 _ i hi, mrow, crow, wj, hijz, hhl', hkl, hkx, eBool, load_iptr_one ag4 sz4, hv', n6r, nbr]
                      exact fin1 true _ hF hW (Nat.le_add_right _ _) rfl rfl (fun id o h => if_neg (by omega)) (by simp)
                    | false =>
                      have hF : hmF l.length hd j i = false := by simp [hmF, hij, ← hK, hkl, hv']
                      have hW : wmF l.length hd i j = 600 := by simp [wmF, hF, hij]
                      simp [e0, e1, e6, e7, e9, e10, e96, e97, e16, e101, e102, hj, hla, wk1, wk2, m6, c61, mb, cb, own27 hb j hj, own23 _ i hi, mrow, crow, wj, hijz, hhl', hkl, hkx, eBool, load_iptr_one ag4 sz4, hv', n6r, nbr, n8r, m8, c81, mb2, cb2, nb2r, own31 wb i hi, own24 _ j hj, mrow2, crow2, nrr]
                      exact fin2 false _ hF hW (Nat.le_add_right _ _) rfl rfl (fun id o h h' => by simp only []; rw [if_neg (by omega), if_neg (by omega)]) (by simp only []; rw [if_neg (fun e => nrr e.1.symm)]; simp) (by simp)
                  · have hF : hmF l.length hd j i = false := by simp [hmF, hij, ← hK, List.getElem?_eq_none (Nat.le_of_not_lt hkl)]
                    have hW : wmF l.length hd i j = 600 := by simp [wmF, hF, hij]
                    simp [e0, e1, e6, e7, e9, e10, e96, e97, e16, e101, e102, hj, hla, wk1, wk2, m6, c61, mb, cb, own27 hb j hj, own23 _ i hi, mrow, crow, wj, hijz, hhl', hkl, n6r, nbr, n8r, m8, c81, mb2, cb2, nb2r, own31 wb i hi, own24 _ j hj, mrow2, crow2, nrr]
                    exact fin2 false _ hF hW (Nat.le_add_right _ _) rfl rfl (fun id o h h' => by simp only []; rw [if_neg (by omega), if_neg (by omega)]) (by simp only []; rw [if_neg (fun e => nrr e.1.symm)]; simp) (by simp)
              · have : j = l.length := by omega
                subst this
                simp [e0, e1, e6, e7, e9, e10, e96, e97, e16, e101, e102]
                exact ⟨hB.grow hQ.nx (Grow.bump _ _), hQ.grow (Grow.bump _ _)⟩)
          obtain ⟨rfl, e0, e1, e6, e7, e9, e10, e96, e97, hB, hQ⟩ := hp
          have wii := wi' i hi
          simp [e0, e1, e6, e7, e9, e10, e96, e97, wii]
          refine ⟨_, _, ⟨rfl, rfl⟩, ?_⟩
          simp [e0, e1, e6, e7, e9, e10, e96]
          refine ⟨by omega, i + 1, by omega, by simp, hB.grow hQ.nx (Grow.bump _ _), (hQ.grow (Grow.bump _ _)).congr (fun p hp o ho => ?_) (fun p hp o ho => ?_)⟩
          · unfold hmT
            by_cases h : o < i ∨ (o = i ∧ p < l.length)
            · rw [if_pos h, if_pos (by omega)]
            · rw [if_neg h, if_neg (by omega)]
          · unfold wmT
            by_cases h : p < i ∨ (p = i ∧ o < l.length)
            · rw [if_pos h, if_pos (by omega)]
            · rw [if_neg h, if_neg (by omega)]
        · have : i = l.length := by omega
          subst this
          simp [e6, e7, e9, e10, e96, e97]
          exact ⟨hB.grow hQ.nx (Grow.bump _ _), hQ.grow (Grow.bump _ _)⟩)
    obtain ⟨rfl, e6, e7, e9, e10, hB, hQ⟩ := hp
    have m1 := hB.m1
    have m2 := hB.m2
    have m6 := hB.m6
    have m8 := hB.m8
    obtain ⟨c10, c11', c12', c13'⟩ := hB.c1
    obtain ⟨c20', c21'⟩ := hB.c2
    obtain ⟨c60, c61, c62, c63⟩ := hB.c6
    obtain ⟨c80, c81⟩ := hB.c8
    simp [e6, e7, e9, e10, m1, m2, m6, m8, c10, c11', c12', c13', c20', c21', c60, c61, c62, c63, c80, c81, ag29, sz29, ag33, sz33]
    generalize hM2 : Mem.mk _ _ _ _ = M2
    have q2 := hQ.low (m' := M2) (by rw [← hM2]; exact Nat.le_add_right _ _) (by rw [← hM2]) (by rw [← hM2]) (fun id hid => by
      rw [← hM2]
      funext o
      simp only []
      rw [if_neg (by omega), if_neg (by omega)])
    obtain ⟨aS, z1, f1, f2, f3, f4⟩ := q2.aS.frozen 4 eCon_len (fun x hx a ha m => by
      simp [eCon, Bk.enc] at ha
      rcases ha with rfl | rfl | rfl | rfl | rfl | rfl | rfl <;> rfl) (Alive.refl M2)
    obtain ⟨z2, g1, g2⟩ := own_frozen 3 (f := fun p o => .bool (hmT l.length hd l.length 0 p o)) (fun p o m => rfl) q2.aH (fun p hp => ⟨by rw [(q2.rH p hp).2.1]; simp, (q2.rH p hp).2.2⟩) (by omega) f3
    obtain ⟨aR, z3, i1, i2, i3, i4⟩ := q2.aR.frozen 4 eRad_len (fun x hx a ha m => by
      simp [eRad] at ha
      rcases ha with rfl | rfl | rfl | rfl <;> rfl) g2
    obtain ⟨z4, j1, j2⟩ := own_frozen 3 (f := fun p o => .int .i64 (wmT l.length hd l.length 0 p o)) (fun p o m => rfl) q2.aW (fun p hp => ⟨by rw [(q2.rW p hp).2.1]; simp, (q2.rW p hp).2.2⟩) (by omega) i3
    have s1 := sl_imm_of f2 (by simp; omega)
    have s3 := sl_imm_of i2 (by simp; omega)
    refine ⟨z4, ?_⟩
    simp [f1, g1, i1, j1, s1, s3, eCts, eAir, ctsOf, airOf, hlH, hlW]
    rw [rowsB_flat, rowsI_flat]
    refine ⟨List.map_congr_left fun p hp => ?_, List.map_congr_left fun p hp => ?_⟩
    · have hp' : p < l.length := by simpa using hp
      have : (fun o => AVal.bool (hmT l.length hd l.length 0 p o)) = fun o => AVal.bool (if o < l.length then hmF l.length hd p o else hmT l.length hd l.length 0 p o) := by
        funext o
        split
        · rename_i h; rw [hmT, if_pos (.inl h)]
        · rfl
      rw [this]
      simp only [List.map_map, List.length_map, List.length_range]
      congr 1
      refine List.map_congr_left fun o ho => ?_
      have ho' : o < l.length := by simpa using ho
      simp [ho']
    · have hp' : p < l.length := by simpa using hp
      have : (fun o => AVal.int .i64 (wmT l.length hd l.length 0 p o)) = fun o => AVal.int .i64 (wmF l.length hd p o) := by
        funext o
        rw [wmT, if_pos (.inl hp')]
      rw [this]
      simp only [List.map_map, List.length_map, List.length_range]
      congr 1
theorem c5 (k : Nat) (hk : 80 ≤ k) (a hv : AVal) (l : List Tlk) (hd : List Bool) (ha : SL eTlk a l) (hh : SL eBool hv hd) (ask : Bool) (hn : 2 ≤ l.length ∧ l.length ≤ 6) (hhl : hd.length ≤ 100) (args : List AVal) (m m1 : Mem) (hz : freezeL (freezeV 8) args m = some ([a, hv, .bool ask], m1)) :
    cCall C T k 5 args m = some (.tup [.agg (eCts (ctsOf ask l hd)), .agg (eAir (airOf l hd)), .bool true], m1) :=
  pure_call kd5 79 hk hz fun k hk => c5b k hk a hv l hd ha hh ask hn hhl
end Go.Proofs.YtmfdjipijifabaaDoor
end

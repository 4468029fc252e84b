/- Part 7 of a proof in many texts, put together: definitions and lemmas. The theorem stands in the last text; no conditions. -/
import Derived.Test.YtmfdjipijifababPart6
section
/- The best of a list by an order. -/
set_option linter.unusedVariables false
set_option linter.unusedSimpArgs false
set_option linter.unnecessarySimpa false
set_option maxRecDepth 100000
namespace Go.Proofs.Ytmfdjipijifabab
open Go.Ab

theorem Grow.alloc (m : Mem) (cs : List AVal) (n k : Nat) : Grow m { cell := fun i o => if i = m.next then cs[o]? else m.cell i o, mode := upd m.mode m.next .rw, siz := upd m.siz m.next k, next := m.next + (n + 1) } := by
  refine ⟨by simp, fun id h => ?_, fun id h => ?_, fun id h => ?_, fun h id hid => ?_⟩
  · funext o; exact if_neg (by omega)
  · exact if_neg (by omega)
  · exact if_neg (by omega)
  · show upd m.mode m.next Md.rw id = .dead
    simp only [] at hid
    rw [upd, if_neg (by omega)]
    exact h id (by omega)

theorem Grow.put (m : Mem) (cs ds : List AVal) (p q n k : Nat) (hpq : p < q) : Grow m { cell := fun i o => if i = m.next + p ∧ o < n then cs[o]? else if i = m.next + p then ds[o]? else m.cell i o, mode := upd m.mode (m.next + p) .rw, siz := upd m.siz (m.next + p) k, next := m.next + q } := by
  refine ⟨by simp, fun id h => ?_, fun id h => ?_, fun id h => ?_, fun h id hid => ?_⟩
  · funext o
    show (if id = m.next + p ∧ o < n then cs[o]? else if id = m.next + p then ds[o]? else m.cell id o) = m.cell id o
    rw [if_neg (by omega), if_neg (by omega)]
  · exact if_neg (by omega)
  · exact if_neg (by omega)
  · show upd m.mode (m.next + p) Md.rw id = .dead
    simp only [] at hid
    rw [upd, if_neg (by omega)]
    exact h id (by omega)

/-- One more element: the index of the best so far. -/
def stepF (l : List AR) (cmp : AR → AR → Int) (ex : Int) (b : Int) (i : Nat) : Int :=
  if (i : Int) = ex then b else if b < 0 then i else match l[i]?, l[b.toNat]? with
    | some x, some y => if 0 < cmp x y then i else b
    | _, _ => b
/-- The index of the first of the greatest, but for one; -1 if there is none. -/
def firstF (l : List AR) (cmp : AR → AR → Int) (ex : Int) (n : Nat) : Int := (List.range n).foldl (stepF l cmp ex) (-1)
theorem firstF_succ (l : List AR) (cmp : AR → AR → Int) (ex : Int) (n : Nat) : firstF l cmp ex (n + 1) = stepF l cmp ex (firstF l cmp ex n) n := by
  unfold firstF
  rw [List.range_succ, List.foldl_append]
  rfl
theorem firstF_lt (l : List AR) (cmp : AR → AR → Int) (ex : Int) (n : Nat) : firstF l cmp ex n = -1 ∨ ∃ b : Nat, firstF l cmp ex n = b ∧ b < n := by
  induction n with
  | zero => exact .inl rfl
  | succ n ih =>
    rw [firstF_succ]
    have old : ∀ b : Int, (b = -1 ∨ ∃ c : Nat, b = c ∧ c < n) → (b = -1 ∨ ∃ c : Nat, b = c ∧ c < n + 1) := fun b h => by
      rcases h with h | ⟨c, h1, h2⟩
      · exact .inl h
      · exact .inr ⟨c, h1, by omega⟩
    unfold stepF
    split
    · exact old _ ih
    · split
      · exact .inr ⟨n, rfl, by omega⟩
      · split
        · split
          · exact .inr ⟨n, rfl, by omega⟩
          · exact old _ ih
        · exact old _ ih

theorem c65 {a : AVal} {l : List AR} (ha : SL eAR a l) (hll : l.length < 2 ^ 62) (cmp : AR → AR → Int) (g : FuncId) (fs cs : List AVal) (K : Nat) (Q : Mem → Prop) (hQ : ∀ m m', Q m → Grow m m' → Q m') (hQf : ∀ m, Q m → Fresh m)
    (hf : ∀ k, K ≤ k → ∀ x ∈ l, ∀ y ∈ l, ∀ m, Q m → ∃ m', cCall C T k g (fs ++ [.agg (eAR x), .agg (eAR y)] ++ cs) m = some (.int .i64 (cmp x y), m') ∧ Grow m m') (ex : Int) :
    ∀ k, K + l.length + 2 ≤ k → ∀ m, Q m → ∃ m', cCall C T k 65 [a, .int .i64 ex, .fn g fs cs] m = some (.int .i64 (firstF l cmp ex l.length), m') ∧ Grow m m' := by
  intro k hk m hq
  obtain ⟨k, rfl⟩ : ∃ j, k = j + 1 := ⟨k - 1, by omega⟩
  have hla := SL.len (P := Try.prog) Try.underlying41 ha
  simp only [cCall, kd65]
  rw [body65]
  simp [codeOf, Try.f65, hla]
  generalize hl : cCode C _ _ _ (.loop _) _ = r
  obtain ⟨e, s', rfl, he, hp⟩ := loop_rule hl (fun j s => s.env 0 = a ∧ s.env 1 = .int .i64 ex ∧ s.env 2 = .fn g fs cs ∧ s.env 10 = a ∧ s.env 11 = .int .i64 l.length ∧ Grow m s.mem ∧ ∃ i : Nat, i + j = l.length ∧ s.env 12 = .int .i64 (i : Nat) ∧ s.env 7 = .int .i64 (firstF l cmp ex i))
    (fun e s => e = .exit 0 ∧ Grow m s.mem ∧ s.env 7 = .int .i64 (firstF l cmp ex l.length)) l.length (by omega) (by
      exact ⟨by simp, by simp, by simp, by simp, by simp, Grow.bump _ _, 0, by simp, by simp, by simp; rfl⟩) (by
      rintro j s ⟨e0, e1, e2, e10, e11, hgr, i, hij, e12, e7⟩
      by_cases hi : i < l.length
      · have hax := SL.indexAddr (P := Try.prog) Try.underlying41 sz94 eAR_len ha (k := .i64) hi
        have wi : IntKind.i64.wrap ((i : Int) + 1) = ((i + 1 : Nat) : Int) := IntWalk.i64_in _ (by omega)
        have hfr := hQf _ (hQ m _ hq hgr)
        have hfd : ∀ n, s.mem.mode (s.mem.next + n) = .dead := fun n => hfr _ (by omega)
        have hbe : ∀ x, eAR x = [.int .i64 x.air, .int .i64 x.tries, .int .i64 x.good, .int .i64 x.chance, .bool x.known] := fun x => rfl
        by_cases hie : (i : Int) = ex
        · have hie' : ((i : Int) != ex) = false := by simp [hie]
          have hst : firstF l cmp ex (i + 1) = firstF l cmp ex i := by rw [firstF_succ, stepF, if_pos hie]
          clear hie
          simp [e0, e1, e2, e7, e10, e11, e12, hi, hax, hbe, ld94, hfd, hie', wi]
          exact ⟨by omega, hgr.trans (Grow.put s.mem _ _ 4 _ 5 _ (by omega)), i + 1, by omega, by simp, hst.symm⟩
        · have hie' : ((i : Int) != ex) = true := by simp [hie]
          rcases firstF_lt l cmp ex i with hb | ⟨b, hb, hbi⟩
          · have hst : firstF l cmp ex (i + 1) = i := by rw [firstF_succ, stepF, if_neg hie, if_pos (by omega)]
            simp [e0, e1, e2, e7, e10, e11, e12, hi, hax, hbe, ld94, hfd, hie', hb, wi]
            exact ⟨by omega, hgr.trans (Grow.put s.mem _ _ 4 _ 5 _ (by omega)), i + 1, by omega, by simp, hst.symm⟩
          · have hbl : b < l.length := by omega
            have hst : firstF l cmp ex (i + 1) = if 0 < cmp l[i] l[b] then (i : Int) else b := by
              rw [firstF_succ, stepF, if_neg hie, if_neg (by omega), hb, Int.toNat_natCast, List.getElem?_eq_getElem hi, List.getElem?_eq_getElem hbl]
            have hbx := SL.indexAddr (P := Try.prog) Try.underlying41 sz94 eAR_len ha (k := .i64) hbl
            have hb0 : ¬ (b : Int) < 0 := by omega
            simp [e0, e1, e2, e7, e10, e11, e12, hi, hax, hbe, ld94, hfd, hie', hb, hb0, hbx, wi]
            generalize hM : Mem.mk _ _ _ _ = M
            have gM : Grow s.mem M := by rw [← hM]; exact Grow.put s.mem _ _ 4 24 5 _ (by omega)
            clear hM
            obtain ⟨m', h1, h2⟩ := hf k (by omega) l[i] (List.getElem_mem hi) l[b] (List.getElem_mem hbl) M (hQ m _ hq (hgr.trans gM))
            rw [hbe, hbe] at h1
            simp at h1
            by_cases hc : 0 < cmp l[i] l[b]
            · rw [if_pos hc] at hst
              simp [h1, hc, e0, e1, e2, e7, e10, e11, e12, wi]
              refine ⟨_, _, ⟨rfl, rfl⟩, ?_⟩
              simp [e0, e1, e2, e7, e10, e11, hb]
              exact ⟨by omega, hgr.trans (gM.trans (h2.trans (Grow.bump _ _))), i + 1, by omega, by simp, hst.symm⟩
            · rw [if_neg hc] at hst
              simp [h1, hc, e0, e1, e2, e7, e10, e11, e12, hb, wi]
              refine ⟨_, _, ⟨rfl, rfl⟩, ?_⟩
              simp [e0, e1, e2, e7, e10, e11, hb]
              exact ⟨by omega, hgr.trans (gM.trans (h2.trans (Grow.bump _ _))), i + 1, by omega, by simp, hst.symm⟩
      · have : i = l.length := by omega
        subst this
        simp [e0, e1, e2, e7, e10, e11, e12]
        exact hgr.trans (Grow.bump _ _))
  obtain ⟨rfl, hgr, e7⟩ := hp
  simp [e7]
  exact hgr.trans (Grow.bump _ _)
end Go.Proofs.Ytmfdjipijifabab
end
section
/- Rate control: the chain. -/
set_option linter.unusedVariables false
set_option linter.unusedSimpArgs false
set_option linter.unnecessarySimpa false
set_option maxRecDepth 100000
namespace Go.Proofs.Ytmfdjipijifabab
open Go.Ab

theorem c66 (k : Nat) (hk : 1 ≤ k) (g : FuncId) (m : Mem) (hf : Fresh m) :
    ∃ m', cCall C T k 66 [.fn g [] []] m = some (.fn 76 [] [.ptr m.next 0], m') ∧ Grow m m' ∧ Fresh m' ∧ m.next < m'.next ∧ m'.mode m.next = .rw ∧ m'.cell m.next 0 = some (.fn g [] []) := by
  obtain ⟨k, rfl⟩ : ∃ j, k = j + 1 := ⟨k - 1, by omega⟩
  simp only [cCall, kd66]
  rw [body66]
  simp [codeOf, Try.f66, restrict, unrestrict, shown, idsOf]
  refine ⟨⟨by simp, fun id h => ?_, fun id h => ?_, fun id h => ?_, fun h id hid => ?_⟩, fun id hid => ?_⟩
  · funext o; simp [h]
  · simp [h]
  · simp [h]
  · simp at hid ⊢
    have h1 : ¬ id < m.next := by omega
    have h2 : ¬ id = m.next := by omega
    simp [h1, h2]
  · simp at hid ⊢
    have h1 : ¬ id < m.next := by omega
    have h2 : ¬ id = m.next := by omega
    simp [h1, h2]

/-- The memory of a chain. -/
structure H4 (a : AVal) (n v0 v1 v2 v3 : Int) (m : Mem) : Prop where
  m0 : m.mode 0 = .rw
  m1 : m.mode 1 = .rw
  c00 : m.cell 0 0 = some a
  c01 : m.cell 0 1 = some (.int .i64 n)
  c10 : m.cell 1 0 = some (.int .i64 v0)
  c11 : m.cell 1 1 = some (.int .i64 v1)
  c12 : m.cell 1 2 = some (.int .i64 v2)
  c13 : m.cell 1 3 = some (.int .i64 v3)
  fresh : Fresh m
  nx : 2 ≤ m.next
theorem H4.grow {a : AVal} {n v0 v1 v2 v3 : Int} {m m' : Mem} (h : H4 a n v0 v1 v2 v3 m) (g : Grow m m') : H4 a n v0 v1 v2 v3 m' := by
  have h0 : 0 < m.next := by have := h.nx; omega
  have h1 : 1 < m.next := by have := h.nx; omega
  exact ⟨(g.mode 0 h0).trans h.m0, (g.mode 1 h1).trans h.m1, by rw [g.cell 0 h0]; exact h.c00, by rw [g.cell 0 h0]; exact h.c01, by rw [g.cell 1 h1]; exact h.c10, by rw [g.cell 1 h1]; exact h.c11, by rw [g.cell 1 h1]; exact h.c12, by rw [g.cell 1 h1]; exact h.c13, g.dead h.fresh, Nat.le_trans h.nx g.next⟩

theorem two (k : Nat) (hk : 40 ≤ k) (a : AVal) (l : List AR) (ha : SL eAR a l) (hl2 : l.length ≤ 16) (g : FuncId) (f : AR → Int) (hg : ∀ k, 1 ≤ k → ∀ r, r ∈ l → ∀ m, cCall C T k g [.agg (eAR r)] m = some (.int .i64 (f r), m)) (hkd : C.kind g = .pure) (ex : Int)
    {n v0 v1 v2 v3 : Int} (M : Mem) (hM : H4 a n v0 v1 v2 v3 M) : ∃ M2 M3, cCall C T k 66 [.fn g [] []] M = some (.fn 76 [] [.ptr M.next 0], M2) ∧ cCall C T k 65 [a, .int .i64 ex, .fn 76 [] [.ptr M.next 0]] M2 = some (.int .i64 (firstF l (byF f) ex l.length), M3) ∧ H4 a n v0 v1 v2 v3 M3 := by
  obtain ⟨M2, h1, h2, h3, h4, h5, h6⟩ := c66 k (by omega) g M hM.fresh
  obtain ⟨M3, q1, q2⟩ := c65 ha (by omega) (byF f) 76 [] [.ptr M.next 0] 7 (fun m => M.next < m.next ∧ m.mode M.next = .rw ∧ m.cell M.next 0 = some (.fn g [] []) ∧ Fresh m)
    (fun m m' h g' => ⟨Nat.lt_of_lt_of_le h.1 g'.next, (g'.mode _ h.1).trans h.2.1, by rw [g'.cell _ h.1]; exact h.2.2.1, g'.dead h.2.2.2⟩) (fun m h => h.2.2.2)
    (fun k hk x hx y hy m hm => c76 g f (fun r => r ∈ l) hg hkd k hk x y hx hy M.next m hm.1 hm.2.1 hm.2.2.1 hm.2.2.2) ex k (by omega) M2 ⟨h4, h5, h6, h3⟩
  exact ⟨M2, M3, h1, q1, (hM.grow h2).grow q2⟩

theorem c48 (k : Nat) (hk : 60 ≤ k) (a : AVal) (l : List AR) (n : Int) (ha : SL eAR a l) (hl : Ads l n) (args : List AVal) (m m1 : Mem) (hz : freezeL (freezeV 8) args m = some ([.agg [a, .int .i64 n]], m1)) :
    ∃ x y z : Int, cCall C T k 48 args m = some (.tup [.agg [.int .i64 (firstF l (byF valF) (-1) l.length), .int .i64 x, .int .i64 y, .int .i64 z], .int .i64 0], m1) := by
  obtain ⟨c0, hc0⟩ : ∃ c, c = firstF l (byF valF) (-1) l.length := ⟨_, rfl⟩
  obtain ⟨c1, hc1⟩ : ∃ c, c = firstF l (byF valF) c0 l.length := ⟨_, rfl⟩
  obtain ⟨c2, hc2⟩ : ∃ c, c = firstF l (byF fun r => r.chance) (-1) l.length := ⟨_, rfl⟩
  obtain ⟨c3, hc3⟩ : ∃ c, c = firstF l (fun r q => cmpI r.air q.air) (-1) l.length := ⟨_, rfl⟩
  rw [← hc0]
  refine ⟨if c1 < 0 then c0 else c1, c2, c3, ?_⟩
  refine pure_call kd48 59 hk hz fun k hk => ?_
  rw [body48]
  have g41 := fun m => c41 k (by omega) a l n ha hl [.agg [a, .int .i64 n]] m m (by simp [SL.fz ha])
  obtain ⟨l1, l2⟩ := hl.len
  have g67 : ∀ k, 1 ≤ k → ∀ r, r ∈ l → ∀ m, cCall C T k 67 [.agg (eAR r)] m = some (.int .i64 (valF r), m) := fun k hk r hr m => c67 k hk r (hl.ok r hr) m
  have g68 : ∀ k, 1 ≤ k → ∀ r, r ∈ l → ∀ m, cCall C T k 68 [.agg (eAR r)] m = some (.int .i64 r.chance, m) := fun k hk r hr m => c68 k hk r m
  have g69 : ∀ k, 3 ≤ k → ∀ r ∈ l, ∀ q ∈ l, ∀ m, True → ∃ m', cCall C T k 69 ([] ++ [.agg (eAR r), .agg (eAR q)] ++ []) m = some (.int .i64 (cmpI r.air q.air), m') ∧ Grow m m' := fun k hk r _ q _ m _ => ⟨m, by simpa using c69 k hk r q m, Grow.refl m⟩
  simp [codeOf, Try.f48, g41, shown, idsOf]
  generalize hM : Mem.mk _ _ _ _ = M
  have HM : H4 a n 0 0 0 0 M := by
    refine ⟨by rw [← hM]; simp [upd], by rw [← hM]; simp [upd], by rw [← hM]; simp, by rw [← hM]; simp, by rw [← hM]; simp, by rw [← hM]; simp, by rw [← hM]; simp, by rw [← hM]; simp, fun id hid => ?_, by rw [← hM]; simp⟩
    rw [← hM] at hid ⊢
    simp only [] at hid
    show upd (upd C.m0.mode 0 Md.rw) 1 Md.rw id = .dead
    rw [upd, if_neg (by omega), upd, if_neg (by omega)]
    exact m0_dead id
  clear hM
  obtain ⟨M2, M3, x1, x2, H⟩ := two k (by omega) a l ha l2 67 valF g67 kd67 (-1) M HM
  rw [← hc0] at x2
  have hnx := H.nx
  have ix : ∀ j : Int, 0 ≤ j ∧ j < 4 → indexAddrA Try.prog 102 (.ptr 1 0) (.int .i64 j) = some (.ptr 1 j.toNat) := fun j hj => by simp [indexAddrA, hj]
  have wr : ∀ (X : Mem) (j : Nat) (w v0 v1 v2 v3 : Int) (q : Nat) (v0' v1' v2' v3' : Int), H4 a n v0 v1 v2 v3 X → (v0' = if j = 0 then w else v0) → (v1' = if j = 1 then w else v1) → (v2' = if j = 2 then w else v2) → (v3' = if j = 3 then w else v3) →
      H4 a n v0' v1' v2' v3' { cell := fun i o => if i = 1 ∧ j ≤ o ∧ o < j + 1 then [AVal.int .i64 w][o - j]? else X.cell i o, mode := X.mode, siz := X.siz, next := X.next + q } := by
    intro X j w v0 v1 v2 v3 q v0' v1' v2' v3' h e0 e1 e2 e3
    have hcell : ∀ o v, X.cell 1 o = some (.int .i64 v) → (if 1 = 1 ∧ j ≤ o ∧ o < j + 1 then [AVal.int .i64 w][o - j]? else X.cell 1 o) = some (.int .i64 (if j = o then w else v)) := fun o v h => by
      by_cases hj : j = o
      · subst hj; simp
      · rw [if_neg (by omega), if_neg hj]; exact h
    refine ⟨h.m0, h.m1, h.c00, h.c01, ?_, ?_, ?_, ?_, Fresh.bump h.fresh q _ _, Nat.le_trans h.nx (Nat.le_add_right _ _)⟩
    · rw [e0]; exact hcell 0 _ h.c10
    · rw [e1]; exact hcell 1 _ h.c11
    · rw [e2]; exact hcell 2 _ h.c12
    · rw [e3]; exact hcell 3 _ h.c13
  simp [x1, x2, ix, H.m1, H.m0, H.c00, H.c10, shown, idsOf, hnx]
  generalize hM : Mem.mk _ _ _ _ = N1
  have HN : H4 a n c0 0 0 0 N1 := by
    have := wr M3 0 c0 0 0 0 0 8 c0 0 0 0 H rfl rfl rfl rfl
    rw [← hM]
    simpa using this
  clear hM
  obtain ⟨N2, N3, y1, y2, I⟩ := two k (by omega) a l ha l2 67 valF g67 kd67 c0 N1 HN
  rw [← hc1] at y2
  have iny := I.nx
  by_cases hneg : c1 < 0
  · rw [if_pos hneg]
    simp [y1, y2, ix, I.m1, I.m0, I.c00, I.c10, I.c11, hneg, shown, idsOf]
    generalize hM : Mem.mk _ _ _ _ = P1
    have HP : H4 a n c0 c0 0 0 P1 := by
      have H1 := wr N3 1 c1 c0 0 0 0 0 c0 c1 0 0 I rfl rfl rfl rfl
      have H2 := wr _ 1 c0 c0 c1 0 0 13 c0 c0 0 0 H1 rfl rfl rfl rfl
      have this := H2
      rw [← hM]
      simpa using this
    clear hM
    obtain ⟨P2, P3, z1, z2, J⟩ := two k (by omega) a l ha l2 68 (fun r => r.chance) g68 kd68 (-1) P1 HP
    rw [← hc2] at z2
    have jny := J.nx
    simp [z1, z2, ix, J.m1, J.m0, J.c00, J.c10, J.c11, J.c12, shown, idsOf]
    generalize hM : Mem.mk _ _ _ _ = Q1
    have HQ : H4 a n c0 c0 c2 0 Q1 := by
      have := wr P3 2 c2 c0 c0 0 0 5 c0 c0 c2 0 J rfl rfl rfl rfl
      rw [← hM]
      simpa using this
    clear hM
    obtain ⟨Q2, u1, u2⟩ := c65 ha (by omega) (fun r q => cmpI r.air q.air) 69 [] [] 3 (fun m => Fresh m) (fun m m' h g' => g'.dead h) (fun m h => h) (fun k hk x hx y hy m hm => by
      obtain ⟨m', w1, w2⟩ := g69 k hk x hx y hy m trivial
      exact ⟨m', w1, w2⟩) (-1) k (by omega) Q1 HQ.fresh
    rw [← hc3] at u1
    have K := HQ.grow u2
    have kny := K.nx
    simp [u1, ix, K.m1, K.m0, K.c00, K.c10, K.c11, K.c12, K.c13]
  · rw [if_neg hneg]
    simp [y1, y2, ix, I.m1, I.m0, I.c00, I.c10, I.c11, hneg, shown, idsOf]
    generalize hM : Mem.mk _ _ _ _ = P1
    have HP : H4 a n c0 c1 0 0 P1 := by
      have := wr N3 1 c1 c0 0 0 0 9 c0 c1 0 0 I rfl rfl rfl rfl
      rw [← hM]
      simpa using this
    clear hM
    obtain ⟨P2, P3, z1, z2, J⟩ := two k (by omega) a l ha l2 68 (fun r => r.chance) g68 kd68 (-1) P1 HP
    rw [← hc2] at z2
    have jny := J.nx
    simp [z1, z2, ix, J.m1, J.m0, J.c00, J.c10, J.c11, J.c12, shown, idsOf]
    generalize hM : Mem.mk _ _ _ _ = Q1
    have HQ : H4 a n c0 c1 c2 0 Q1 := by
      have := wr P3 2 c2 c0 c1 0 0 5 c0 c1 c2 0 J rfl rfl rfl rfl
      rw [← hM]
      simpa using this
    clear hM
    obtain ⟨Q2, u1, u2⟩ := c65 ha (by omega) (fun r q => cmpI r.air q.air) 69 [] [] 3 (fun m => Fresh m) (fun m m' h g' => g'.dead h) (fun m h => h) (fun k hk x hx y hy m hm => by
      obtain ⟨m', w1, w2⟩ := g69 k hk x hx y hy m trivial
      exact ⟨m', w1, w2⟩) (-1) k (by omega) Q1 HQ.fresh
    rw [← hc3] at u1
    have K := HQ.grow u2
    have kny := K.nx
    simp [u1, ix, K.m1, K.m0, K.c00, K.c10, K.c11, K.c12, K.c13]
end Go.Proofs.Ytmfdjipijifabab
end
section
/- The best rate for a level; a station that learns its rate. -/
set_option linter.unusedVariables false
set_option linter.unusedSimpArgs false
set_option linter.unnecessarySimpa false
set_option maxRecDepth 100000
namespace Go.Proofs.Ytmfdjipijifabab
open Go.Ab

/-- An element is appended that was laid beside others. -/
theorem App.pushG2 {α : Type} {enc : α → List AVal} {sz lo : Nat} {s : AVal} {l : List α} {m M2 : Mem} {P : Program} {t e : TypeId} {i : TypeInfo} {z : List AVal} (he : ∀ x, (enc x).length = sz) (hu : P.underlying t = some (.slice e)) (hi : P.info? e = some i) (hs : i.size = sz) (hb : i.bytes ≤ 100000) (hz : zeroA P e = some z) (hzl : z.length = sz) (hpos : 0 < sz)
    (h : App enc sz s l lo m) (hlo : lo ≤ m.next) (hl : l.length < 2 ^ 20) {xid new : Nat} {v : α} (hnx : m.next ≤ M2.next)
    (low : ∀ id, id < m.next → M2.cell id = m.cell id ∧ M2.mode id = m.mode id ∧ M2.siz id = m.siz id) (hd : ∀ id, m.next ≤ id → id ≠ xid → (M2.mode id = .dead ∨ id < M2.next)) (hx : M2.mode xid ≠ .dead) (hxn : xid < M2.next) (hxc : ∀ o, o < sz → M2.cell xid o = (enc v)[o]?) (hn1 : m.next ≤ new) (hn2 : new < M2.next) (hnd : M2.mode new = .dead) :
    ∃ m', appendA P t t s (.own xid 0 1 sz) M2 new = some (.own new 0 (l.length + 1) sz, m') ∧ App enc sz (.own new 0 (l.length + 1) sz) (l ++ [v]) lo m' ∧ m'.next = M2.next ∧ Fresh m' ∧ (∀ id, id < m.next → (∀ n, s ≠ .own id 0 n sz) → m'.cell id = m.cell id ∧ m'.mode id = m.mode id ∧ m'.siz id = m.siz id) ∧ (∀ id, id ≠ new → M2.mode id = .dead → m'.mode id = .dead) := by
  have hA2 : App enc sz s l lo M2 := by
    rcases h with h | ⟨id, h1, h2, h3, h4, h5, h6⟩
    · exact .inl h
    · obtain ⟨a, b, c⟩ := low id h3
      exact .inr ⟨id, h1, h2, by omega, b.trans h4, c.trans h5, fun o ho => by rw [a]; exact h6 o ho⟩
  obtain ⟨m', a1, a2, a3, a4, a5⟩ := App.more he hu hi hs hb hz hzl hpos hA2 hx hxc (by omega) hnd hn2 hl
  refine ⟨m', a1, a2, a3, fun id hid => a5 id (by omega) ?_, fun id hid hne => ?_, a5⟩
  · rcases hd id (by omega) (by omega) with h | h
    · exact h
    · omega
  · obtain ⟨b1, b2, b3⟩ := a4 id (by omega) hne
    obtain ⟨d1, d2, d3⟩ := low id hid
    exact ⟨b1.trans d1, b2.trans d2, b3.trans d3⟩

theorem App.noid {α : Type} {enc : α → List AVal} {sz lo : Nat} {s : AVal} {l : List α} {m : Mem} (h : App enc sz s l lo m) {id : Nat} (hid : id < lo ∨ m.next ≤ id) : ¬ id ∈ idsOf s := by
  rcases h with ⟨_, rfl⟩ | ⟨id', rfl, h2, h3, _⟩
  · simp [idsOf]
  · simp [idsOf]; omega

theorem idsOf_own (id off n sz : Nat) : idsOf (.own id off n sz) = [id] := rfl

/-- The last of the first n rates that suffice. -/
def bestF (v : Int) (n : Nat) : Nat := (List.range n).foldl (fun b i => if needOf i ≤ v then i else b) 0
def foundF (v : Int) (n : Nat) : Bool := (List.range n).any fun i => decide (needOf i ≤ v)
theorem bestF_succ (v : Int) (n : Nat) : bestF v (n + 1) = if needOf n ≤ v then n else bestF v n := by
  unfold bestF
  rw [List.range_succ, List.foldl_append]
  rfl
theorem foundF_succ (v : Int) (n : Nat) : foundF v (n + 1) = (foundF v n || decide (needOf n ≤ v)) := by
  unfold foundF
  rw [List.range_succ, List.any_append]
  simp

theorem ix91 (i : Nat) (hi : i < 12) : indexA Try.prog 91 (.agg ((List.range 12).flatMap rateV)) (.int .i64 i) = some (.agg (rateV i)) := by
  rcases fin12 hi with rfl | rfl | rfl | rfl | rfl | rfl | rfl | rfl | rfl | rfl | rfl | rfl <;> kernel_rfl

theorem c23 (k : Nat) (hk : 40 ≤ k) (v : Int) (m : Mem) : cCall C T k 23 [.int .i64 v] m = some (.tup [.int .i64 (bestF v 12 : Nat), .bool (foundF v 12)], m) := by
  refine pure_call kd23 39 hk (by simp; rfl) fun k hk => ?_
  rw [body23]
  have g38 := c38 k (by omega)
  obtain ⟨tb, htb⟩ : ∃ tb, tb = AVal.agg ((List.range 12).flatMap rateV) := ⟨_, rfl⟩
  have hix := ix91
  rw [← htb] at g38 hix
  simp [codeOf, Try.f23, g38]
  generalize hl : cCode C _ _ _ (.loop _) _ = r
  obtain ⟨e, s', rfl, he, hp⟩ := loop_rule hl (fun q s => s.env 0 = .int .i64 v ∧ s.env 8 = tb ∧ Fresh s.mem ∧ ∃ i : Nat, i + q = 12 ∧ s.env 9 = .int .i64 (i : Nat) ∧ s.env 4 = .int .i64 (bestF v i : Nat) ∧ s.env 5 = .bool (foundF v i))
    (fun e s => e = .exit 0 ∧ s.env 4 = .int .i64 (bestF v 12 : Nat) ∧ s.env 5 = .bool (foundF v 12)) 12 (by omega) (by
      exact ⟨by simp, by simp, fun id hid => m0_dead id, 0, by simp, by simp, by simp [bestF], by simp [foundF]⟩) (by
      rintro q s ⟨e0, e8, hfr, i, hiq, e9, e4, e5⟩
      by_cases hi : i < 12
      · have hi' : (i : Int) < 12 := by omega
        have hx := hix i hi
        have wi : IntKind.i64.wrap ((i : Int) + 1) = ((i + 1 : Nat) : Int) := IntWalk.i64_in _ (by omega)
        have hf : ∀ n, s.mem.mode (s.mem.next + n) = .dead := fun n => hfr _ (by omega)
        have hb := bestF_succ v i
        have hff := foundF_succ v i
        by_cases hn : needOf i ≤ v
        · rw [if_pos hn] at hb
          simp [e0, e8, e9, e4, e5, hi', hx, rateV, hf, hn, wi]
          exact ⟨by omega, Fresh.put hfr 3 _ (by omega) _ _, i + 1, by omega, by simp, by rw [hb], by rw [hff]; simp [hn]⟩
        · rw [if_neg hn] at hb
          simp [e0, e8, e9, e4, e5, hi', hx, rateV, hf, hn, wi]
          exact ⟨by omega, Fresh.put hfr 3 _ (by omega) _ _, i + 1, by omega, by simp, by rw [hb], by rw [hff]; simp [hn]⟩
      · have : i = 12 := by omega
        subst this
        simp [e0, e8, e9, e4, e5])
  obtain ⟨rfl, e4, e5⟩ := hp
  simp [e4, e5]

/-- Whether a rate is usable at a level. -/
def uF (v : Int) (i : Nat) : Bool := decide (needOf i ≤ v) && decide (-820 ≤ v)
def anyF (v : Int) (n : Nat) : Bool := (List.range n).any (uF v)
theorem anyF_succ (v : Int) (n : Nat) : anyF v (n + 1) = (anyF v n || uF v n) := by
  unfold anyF
  rw [List.range_succ, List.any_append]
  simp
theorem take_range (i : Nat) (hi : i < 12) : (List.range (i + 1)) = List.range i ++ [i] := List.range_succ

theorem inf3 : ∃ i, Try.prog.info? 3 = some i ∧ i.size = 1 ∧ i.bytes = 8 := inf_of (by kernel_rfl)
theorem inf4 : ∃ i, Try.prog.info? 4 = some i ∧ i.size = 1 ∧ i.bytes = 1 := inf_of (by kernel_rfl)

/-- A station that learns its rate. -/
structure Tun where
  us : List Bool
  ar : List Int
  best : Int
  any : Bool
  rs : List AR
  n : Int
  count : Int
  good : Int
  spent : Int
def eTun (t : Tun) : List AVal := [.imm t.us.length (t.us.flatMap eBool), .imm t.ar.length (t.ar.flatMap eInt), .int .i64 t.best, .bool t.any, .imm t.rs.length (t.rs.flatMap eAR), .int .i64 t.n, .int .i64 t.count, .int .i64 t.good, .int .i64 t.spent]
theorem eTun_len (t : Tun) : (eTun t).length = 9 := rfl

/-- One more rate: the index of the best so far. -/
def stepB (us : List Bool) (ar : List Int) (any : Bool) (b : Int) (i : Nat) : Int :=
  if (us[i]?.getD false || !any) = true then (if b < 0 then i else if ar[i]?.getD 0 < ar[b.toNat]?.getD 0 then i else b) else b
def bestB (us : List Bool) (ar : List Int) (any : Bool) (n : Nat) : Int := (List.range n).foldl (stepB us ar any) (-1)
theorem bestB_succ (us : List Bool) (ar : List Int) (any : Bool) (n : Nat) : bestB us ar any (n + 1) = stepB us ar any (bestB us ar any n) n := by
  unfold bestB
  rw [List.range_succ, List.foldl_append]
  rfl
theorem bestB_lt (us : List Bool) (ar : List Int) (any : Bool) (n : Nat) : bestB us ar any n = -1 ∨ ∃ b : Nat, bestB us ar any n = b ∧ b < n := by
  induction n with
  | zero => exact .inl rfl
  | succ n ih =>
    rw [bestB_succ]
    have old : ∀ b : Int, (b = -1 ∨ ∃ c : Nat, b = c ∧ c < n) → (b = -1 ∨ ∃ c : Nat, b = c ∧ c < n + 1) := fun b h => by
      rcases h with h | ⟨c, h1, h2⟩
      · exact .inl h
      · exact .inr ⟨c, h1, by omega⟩
    unfold stepB
    split
    · split
      · exact .inr ⟨n, rfl, by omega⟩
      · split
        · exact .inr ⟨n, rfl, by omega⟩
        · exact old _ ih
    · exact old _ ih
def usF (v : Int) : List Bool := (List.range 12).map (uF v)
def arF (b : Int) : List Int := (List.range 12).map fun j => totF j b
def tun0 (v b : Int) : Tun := ⟨usF v, arF b, bestB (usF v) (arF b) (anyF v 12) 12, anyF v 12, (arF b).map ar0, 0, 0, 0, 0⟩

/-- The memory of a new station, while it is made. -/
structure TM (us : List Bool) (ar : List Int) (best : Int) (any : Bool) (U A : AVal) (m : Mem) : Prop where
  m0 : m.mode 0 = .rw
  m2 : m.mode 2 = .rw
  z : ∀ o, o < 9 → (m.cell 0 o).isSome = true
  c0 : m.cell 2 0 = some U
  c1 : m.cell 2 1 = some A
  c2 : m.cell 2 2 = some (.int .i64 best)
  c3 : m.cell 2 3 = some (.bool any)
  c4 : m.cell 2 4 = some .nils
  c5 : m.cell 2 5 = some (.int .i64 0)
  c6 : m.cell 2 6 = some (.int .i64 0)
  c7 : m.cell 2 7 = some (.int .i64 0)
  c8 : m.cell 2 8 = some (.int .i64 0)
  fresh : Fresh m
  nx : 3 ≤ m.next
  hU : App eBool 1 U us 3 m
  hA : App eInt 1 A ar 3 m
  ne : ∀ id n n', U = .own id 0 n 1 → A = .own id 0 n' 1 → False

theorem TM.setBest {us : List Bool} {ar : List Int} {best : Int} {any : Bool} {U A : AVal} {m : Mem} (H : TM us ar best any U A m) (w : Int) (q : Nat) : TM us ar w any U A { cell := fun i o => if i = 2 ∧ 2 ≤ o ∧ o < 3 then [AVal.int .i64 w][o - 2]? else m.cell i o, mode := m.mode, siz := m.siz, next := m.next + q } := by
  refine ⟨H.m0, H.m2, H.z, by simp [H.c0], by simp [H.c1], by simp, by simp [H.c3], by simp [H.c4], by simp [H.c5], by simp [H.c6], by simp [H.c7], by simp [H.c8], Fresh.bump H.fresh _ _ _, Nat.le_trans H.nx (Nat.le_add_right _ _), ?_, ?_, H.ne⟩
  · exact App.same H.hU (Nat.le_add_right _ _) (fun id n e _ h3 => ⟨by funext o; exact if_neg (by omega), rfl, rfl⟩)
  · exact App.same H.hA (Nat.le_add_right _ _) (fun id n e _ h3 => ⟨by funext o; exact if_neg (by omega), rfl, rfl⟩)
theorem TM.bump {us : List Bool} {ar : List Int} {best : Int} {any : Bool} {U A : AVal} {m : Mem} (H : TM us ar best any U A m) (q : Nat) : TM us ar best any U A { cell := m.cell, mode := m.mode, siz := m.siz, next := m.next + q } :=
  ⟨H.m0, H.m2, H.z, H.c0, H.c1, H.c2, H.c3, H.c4, H.c5, H.c6, H.c7, H.c8, Fresh.bump H.fresh _ _ _, Nat.le_trans H.nx (Nat.le_add_right _ _), H.hU.grow (Grow.bump _ _), H.hA.grow (Grow.bump _ _), H.ne⟩


/-! The law of one station. -/
theorem need_ge (i : Nat) : -820 ≤ needOf i := by unfold needOf; split <;> omega
theorem uF_eq (v : Int) (i : Nat) : uF v i = decide (needOf i ≤ v) := by
  have := need_ge i
  unfold uF
  by_cases h : needOf i ≤ v
  · simp [h]; omega
  · simp [h]
theorem found_any (v : Int) (n : Nat) : foundF v n = anyF v n := by
  unfold foundF anyF
  congr 1
  funext i
  exact (uF_eq v i).symm
theorem bestF_spec (v : Int) (n : Nat) (h : foundF v n = true) : bestF v n < n ∧ needOf (bestF v n) ≤ v ∧ ∀ j, j < n → needOf j ≤ v → j ≤ bestF v n := by
  induction n with
  | zero => simp [foundF] at h
  | succ n ih =>
    rw [foundF_succ] at h
    rw [bestF_succ]
    by_cases hn : needOf n ≤ v
    · rw [if_pos hn]
      exact ⟨by omega, hn, fun j hj _ => by omega⟩
    · rw [if_neg hn]
      simp [hn] at h
      obtain ⟨a, b, c⟩ := ih h
      exact ⟨by omega, b, fun j hj hn' => by
        rcases Nat.lt_or_ge j n with h | h
        · exact c j h hn'
        · have : j = n := by omega
          subst this
          exact absurd hn' hn⟩

def okB (us : List Bool) (any : Bool) (j : Nat) : Prop := (us[j]?.getD false || !any) = true
theorem bestB_spec (us : List Bool) (ar : List Int) (any : Bool) (n : Nat) : (bestB us ar any n = -1 ∧ ∀ j, j < n → ¬ okB us any j) ∨
    ∃ c : Nat, c < n ∧ bestB us ar any n = c ∧ okB us any c ∧ (∀ j, j < n → okB us any j → ar[c]?.getD 0 ≤ ar[j]?.getD 0) ∧ ∀ j, j < c → okB us any j → ar[c]?.getD 0 < ar[j]?.getD 0 := by
  induction n with
  | zero => exact .inl ⟨rfl, fun j hj => by omega⟩
  | succ n ih =>
    rw [bestB_succ]
    unfold stepB
    by_cases hok : okB us any n
    · right
      rw [if_pos (show (us[n]?.getD false || !any) = true from hok)]
      rcases ih with ⟨h1, h2⟩ | ⟨c, h1, h2, h3, h4, h5⟩
      · rw [h1, if_pos (by omega)]
        exact ⟨n, by omega, rfl, hok, fun j hj hj' => by
          rcases Nat.lt_or_ge j n with h | h
          · exact absurd hj' (h2 j h)
          · have : j = n := by omega
            subst this
            exact Int.le_refl _, fun j hj hj' => absurd hj' (h2 j hj)⟩
      · rw [h2, if_neg (by omega), Int.toNat_natCast]
        by_cases hlt : ar[n]?.getD 0 < ar[c]?.getD 0
        · rw [if_pos hlt]
          exact ⟨n, by omega, rfl, hok, fun j hj hj' => by
            rcases Nat.lt_or_ge j n with h | h
            · have := h4 j h hj'; omega
            · have : j = n := by omega
              subst this
              exact Int.le_refl _, fun j hj hj' => by have := h4 j hj hj'; omega⟩
        · rw [if_neg hlt]
          exact ⟨c, by omega, rfl, h3, fun j hj hj' => by
            rcases Nat.lt_or_ge j n with h | h
            · exact h4 j h hj'
            · have : j = n := by omega
              subst this
              omega, h5⟩
    · rw [if_neg (show ¬ (us[n]?.getD false || !any) = true from hok)]
      rcases ih with ⟨h1, h2⟩ | ⟨c, h1, h2, h3, h4, h5⟩
      · left
        exact ⟨h1, fun j hj => by
          rcases Nat.lt_or_ge j n with h | h
          · exact h2 j h
          · have : j = n := by omega
            subst this
            exact hok⟩
      · right
        exact ⟨c, by omega, h2, h3, fun j hj hj' => by
          rcases Nat.lt_or_ge j n with h | h
          · exact h4 j h hj'
          · have : j = n := by omega
            subst this
            exact absurd hj' hok, h5⟩

theorem ceil_anti {N B B' : Int} (hN : 0 ≤ N) (hB : 0 < B) (h : B ≤ B') : (N + B' - 1) / B' ≤ (N + B - 1) / B := by
  obtain ⟨q, hq⟩ : ∃ q, q = (N + B - 1) / B := ⟨_, rfl⟩
  have h1 : N + B - 1 < (q + 1) * B := by rw [hq]; exact Int.lt_ediv_add_one_mul_self _ hB
  have hq0 : 0 ≤ q := by rw [hq]; exact Int.ediv_nonneg (by omega) (by omega)
  have h2 : q * B ≤ q * B' := Int.mul_le_mul_of_nonneg_left h hq0
  have h3 : (q + 1) * B = q * B + B := by rw [Int.add_mul, Int.one_mul]
  have h4 : (q + 1) * B' = q * B' + B' := by rw [Int.add_mul, Int.one_mul]
  rw [← hq]
  have : (N + B' - 1) / B' < q + 1 := Int.ediv_lt_of_lt_mul (by omega) (by omega)
  omega
theorem bits_mono {i j : Nat} (h : i ≤ j) (hj : j < 12) : bitsOf i ≤ bitsOf j := by
  rcases fin12 hj with rfl | rfl | rfl | rfl | rfl | rfl | rfl | rfl | rfl | rfl | rfl | rfl <;> rcases fin12 (show i < 12 by omega) with rfl | rfl | rfl | rfl | rfl | rfl | rfl | rfl | rfl | rfl | rfl | rfl <;> first | (exfalso; omega) | decide
theorem resp_mono {i j : Nat} (h : i ≤ j) (hj : j < 12) : respOf i ≤ respOf j := by
  rcases fin12 hj with rfl | rfl | rfl | rfl | rfl | rfl | rfl | rfl | rfl | rfl | rfl | rfl <;> rcases fin12 (show i < 12 by omega) with rfl | rfl | rfl | rfl | rfl | rfl | rfl | rfl | rfl | rfl | rfl | rfl <;> first | (exfalso; omega) | decide
theorem air_anti {i j : Nat} (h : i ≤ j) (hj : j < 12) {b : Int} (hb : 0 ≤ b) : airF j b ≤ airF i b := by
  unfold airF
  have h1 := ceil_anti (N := 8 * b + 22) (by omega) (show 0 < bitsOf i by have := bits_range i; omega) (bits_mono h hj)
  omega
theorem tot_anti {i j : Nat} (h : i ≤ j) (hj : j < 12) {b : Int} (hb : 0 ≤ b) : totF j b ≤ totF i b := by
  have h1 := air_anti h hj hb
  have h2 := air_anti (resp_mono h hj) (resp_lt j) (b := 14) (by omega)
  unfold totF
  omega
theorem tot_most (i : Nat) (hi : i < 12) {b : Int} (hb : 0 ≤ b ∧ b ≤ 2304) : 1 ≤ totF i b ∧ totF i b ≤ 32767 := by
  have h1 := tot_anti (Nat.zero_le i) hi hb.1
  have h2 := totF_range i (b := b) (by omega)
  have h3 : airF 0 b = 20 + 4 * ((8 * b + 22 + 24 - 1) / 24) := rfl
  have h4 : airF (respOf 0) 14 = 20 + 4 * ((8 * 14 + 22 + 24 - 1) / 24) := rfl
  unfold totF at h1 ⊢
  unfold totF at h2
  omega
theorem us_get (v : Int) {i : Nat} (hi : i < 12) : (usF v)[i]?.getD false = decide (needOf i ≤ v) := by
  simp [usF, hi, uF_eq]
theorem ar_get (b : Int) {i : Nat} (hi : i < 12) : (arF b)[i]?.getD 0 = totF i b := by
  simp [arF, hi]
/-- The best rate for the level has the airtime of the best one. -/
theorem best_eq (v : Int) {b : Int} (hb : 0 ≤ b) (h : anyF v 12 = true) : ∃ c : Nat, c < 12 ∧ bestB (usF v) (arF b) (anyF v 12) 12 = c ∧ bestF v 12 < 12 ∧ totF (bestF v 12) b = totF c b := by
  obtain ⟨p1, p2, p3⟩ := bestF_spec v 12 (by rw [found_any]; exact h)
  have hok : okB (usF v) (anyF v 12) (bestF v 12) := by
    unfold okB
    rw [us_get v p1]
    simp [p2]
  rcases bestB_spec (usF v) (arF b) (anyF v 12) 12 with ⟨h1, h2⟩ | ⟨c, h1, h2, h3, h4, h5⟩
  · exact absurd hok (h2 _ p1)
  · have q1 := h4 _ p1 hok
    rw [ar_get b h1, ar_get b p1] at q1
    unfold okB at h3
    rw [us_get v h1, h] at h3
    simp at h3
    have q2 := tot_anti (p3 c h1 h3) p1 hb
    exact ⟨c, h1, h2, p1, by omega⟩
theorem best_ex (v b : Int) : ∃ c : Nat, c < 12 ∧ bestB (usF v) (arF b) (anyF v 12) 12 = c := by
  rcases bestB_spec (usF v) (arF b) (anyF v 12) 12 with ⟨h1, h2⟩ | ⟨c, h1, h2, _⟩
  · exfalso
    cases ha : anyF v 12 with
    | false => exact h2 0 (by omega) (by unfold okB; rw [ha]; simp)
    | true =>
      unfold anyF at ha
      rw [List.any_eq_true] at ha
      obtain ⟨j, hj, hj'⟩ := ha
      have hj := List.mem_range.1 hj
      refine h2 j hj ?_
      unfold okB
      rw [us_get v hj, ← uF_eq, hj']
      rfl
  · exact ⟨c, h1, h2⟩
end Go.Proofs.Ytmfdjipijifabab
end
section
/- A new station that learns its rate. -/
set_option linter.unusedVariables false
set_option linter.unusedSimpArgs false
set_option linter.unnecessarySimpa false
set_option maxRecDepth 100000
namespace Go.Proofs.Ytmfdjipijifabab
open Go.Ab

set_option maxHeartbeats 8000000 in
theorem c8 (k : Nat) (hk : 100 ≤ k) (v b : Int) (hb : 0 ≤ b ∧ b ≤ 2304) (m : Mem) : cCall C T k 8 [.int .i64 v, .int .i64 b] m = some (.tup [.agg (eTun (tun0 v b)), .bool true], m) := by
  refine pure_call kd8 99 hk (by simp; rfl) fun k hk => ?_
  rw [body8]
  have g19 := c19 k (by omega)
  simp [codeOf, Try.f8, g19]
  generalize hl : cCode C _ _ _ (.loop _) _ = r
  obtain ⟨e, s', rfl, he, hp⟩ := loop_rule hl (fun q s => s.env 0 = .int .i64 v ∧ s.env 1 = .int .i64 b ∧ s.env 4 = .ptr 0 0 ∧ s.env 6 = .ptr 2 0 ∧ s.env 18 = .int .i64 12 ∧ ∃ i U A, i + q = 12 ∧ s.env 19 = .int .i64 (i : Nat) ∧ TM ((List.range i).map (uF v)) ((List.range i).map fun j => totF j b) 0 (anyF v i) U A s.mem)
    (fun e s => e = .exit 0 ∧ s.env 0 = .int .i64 v ∧ s.env 1 = .int .i64 b ∧ s.env 4 = .ptr 0 0 ∧ s.env 6 = .ptr 2 0 ∧ ∃ U A, TM ((List.range 12).map (uF v)) ((List.range 12).map fun j => totF j b) 0 (anyF v 12) U A s.mem) 12 (by omega) (by
      refine ⟨by simp, by simp, by simp, by simp, by simp, 0, .nils, .nils, by simp, by simp, ?_⟩
      refine ⟨by simp [upd], by simp [upd], fun o ho => ?_, by simp, by simp, by simp, by simp [anyF], by simp, by simp, by simp, by simp, by simp, fun id hid => ?_, by simp, .inl ⟨by simp, rfl⟩, .inl ⟨by simp, rfl⟩, fun id n n' h => by cases h⟩
      · have h9 : o = 0 ∨ o = 1 ∨ o = 2 ∨ o = 3 ∨ o = 4 ∨ o = 5 ∨ o = 6 ∨ o = 7 ∨ o = 8 := by omega
        rcases h9 with rfl | rfl | rfl | rfl | rfl | rfl | rfl | rfl | rfl <;> simp
      · simp only [] at hid
        show upd (upd C.m0.mode 0 Md.rw) 2 Md.rw id = .dead
        rw [upd, if_neg (by omega), upd, if_neg (by omega)]
        exact m0_dead id) (by
      rintro q s ⟨e0, e1, e4, e6, e18, i, U, A, hiq, e19, H⟩
      by_cases hi : i < 12
      · have hi' : (i : Int) < 12 := by omega
        have g20 := c20 k (by omega) i hi
        have g21 := c21 k (by omega) i hi b (by omega)
        have wi : IntKind.i64.wrap ((i : Int) + 1) = ((i + 1 : Nat) : Int) := IntWalk.i64_in _ (by omega)
        have hfr := H.fresh
        have hf : ∀ n, s.mem.mode (s.mem.next + n) = .dead := fun n => hfr _ (by omega)
        have hnx := H.nx
        have n2 : ∀ n, ¬ 2 = s.mem.next + n := fun n => by omega
        have m2 := H.m2
        have c20' := H.c0
        have hu : ∀ x : Bool, (match needOf i ≤ v, x with | _, y => y) = x := fun x => rfl
        by_cases h1 : needOf i ≤ v <;> by_cases h2 : -820 ≤ v
        · have huF : uF v i = true := by simp [uF, h1, h2]
          simp [e0, e1, e4, e6, e18, e19, hi', g20, rateV, g21, hf, n2, m2, c20', h1, h2, callFoot, buildSliceA, zeros, List.range, List.range.loop]
          generalize hM2 : Mem.mk _ _ _ _ = M2
          have n2M : M2.next = s.mem.next + 46 := by rw [← hM2]
          have low2 : ∀ id, id < s.mem.next → M2.cell id = s.mem.cell id ∧ M2.mode id = s.mem.mode id ∧ M2.siz id = s.mem.siz id := fun id h => by
            have h1 : ¬ id = s.mem.next + 8 := by omega
            have h2 : ¬ id = s.mem.next + 35 := by omega
            rw [← hM2]
            exact ⟨by funext o; simp [h1, h2], by simp [upd, h1, h2], by simp [upd, h1, h2]⟩
          have dd2 : ∀ id, s.mem.next ≤ id → id ≠ s.mem.next + 8 → id ≠ s.mem.next + 35 → M2.mode id = .dead := fun id h h1 h2 => by
            rw [← hM2]; simp [upd, h1, h2]; exact hfr id h
          obtain ⟨inf, i1, i2, i3⟩ := inf4
          obtain ⟨m3, a1, a2, a3, a4, a5, a6⟩ := App.pushG2 (P := Try.prog) (t := 34) eBool_len Try.underlying34 i1 i2 (by omega) zc4 rfl (by omega) H.hU (by omega) (by simp; omega) (xid := s.mem.next + 35) (new := s.mem.next + 36) (v := uF v i) (M2 := M2) (by omega) low2
            (fun id h h2 => by
              by_cases h1 : id = s.mem.next + 8
              · right; omega
              · left; exact dd2 id h h1 h2)
            (by rw [← hM2]; simp) (by omega) (fun o ho => by rw [← hM2, huF]; simp [eBool]) (by omega) (by omega) (dd2 _ (by omega) (by omega) (by omega))
          simp only [List.length_map, List.length_range] at a1 a2
          have hAm : App eInt 1 A ((List.range i).map fun j => totF j b) 3 m3 := by
            refine App.same (App.same H.hA (m' := M2) (by omega) (fun id n _ h _ => low2 id h)) (by omega) (fun id n e h3 h4 => ?_)
            have hid : id < s.mem.next := by have := (app_own H.hA e).2; exact this
            obtain ⟨b1, b2, b3⟩ := a5 id hid (fun n' e' => H.ne id n' n e' e)
            obtain ⟨d1, d2, d3⟩ := low2 id hid
            exact ⟨b1.trans d1.symm, b2.trans d2.symm, b3.trans d3.symm⟩
          obtain ⟨x1, x2, _⟩ := a5 2 (by omega) (fun n e => by have := (app_own H.hU e).1; omega)
          obtain ⟨y1, y2, _⟩ := a5 0 (by omega) (fun n e => by have := (app_own H.hU e).1; omega)
          have z2 : m3.mode 2 = .rw := x2.trans H.m2
          have zc1 : m3.cell 2 1 = some A := by rw [x1]; exact H.c1
          have hf3 : ∀ n, m3.mode (s.mem.next + 46 + n) = .dead := fun n => a4 _ (by omega)
          have hd40 : m3.mode (s.mem.next + 40) = .dead := a6 _ (by omega) (dd2 _ (by omega) (by omega) (by omega))
          have u1 := App.noid H.hU (id := 2) (by omega)
          have u2 := App.noid H.hU (id := s.mem.next + 40) (by omega)
          have u3 := App.noid H.hU (id := s.mem.next + 41) (by omega)
          simp [a1, e0, e1, e4, e6, e18, e19, z2, zc1, hd40, n2, huF, u1, u2, u3, idsOf_own, buildSliceA, zeros, List.range, List.range.loop]
          generalize hM4 : Mem.mk _ _ _ _ = M4
          have n4 : M4.next = m3.next := by rw [← hM4]
          have low4 : ∀ id, id < s.mem.next → M4.cell id = m3.cell id ∧ M4.mode id = m3.mode id ∧ M4.siz id = m3.siz id := fun id h => by
            have h1 : ¬ id = s.mem.next + 40 := by omega
            rw [← hM4]
            exact ⟨by funext o; simp [h1], by simp [upd, h1], by simp [upd, h1]⟩
          have hAm4 : App eInt 1 A ((List.range i).map fun j => totF j b) 3 M4 := App.same hAm (by omega) (fun id n e h3 h4 => low4 id (by have := (app_own H.hA e).2; exact this))
          have hUm4 : App eBool 1 (.own (s.mem.next + 36) 0 (i + 1) 1) ((List.range (i + 1)).map (uF v)) 3 M4 := by
            have := App.same (m' := M4) a2 (by omega) (fun id n e h3 h4 => by
              cases e
              rw [← hM4]
              exact ⟨by funext o; simp, by simp [upd], by simp [upd]⟩)
            simpa [List.range_succ] using this
          obtain ⟨inf', j1, j2, j3⟩ := inf3
          obtain ⟨m5, b1, b2, b3, b4, b5⟩ := App.more (P := Try.prog) (t := 29) eInt_len Try.underlying29 j1 j2 (by omega) zc3 rfl (by omega) hAm4 (xid := s.mem.next + 40) (new := s.mem.next + 41) (v := totF i b) (by rw [← hM4]; simp) (fun o ho => by rw [← hM4]; simp [eInt]) (by omega)
            (by rw [← hM4]; simp [upd]; exact a6 _ (by omega) (dd2 _ (by omega) (by omega) (by omega))) (by omega) (by simp; omega)
          simp only [List.length_map, List.length_range] at b1 b2
          have b2' : App eInt 1 (.own (s.mem.next + 41) 0 (i + 1) 1) ((List.range (i + 1)).map fun j => totF j b) 3 m5 := by
            simpa [List.range_succ] using b2
          have hUm5 : App eBool 1 (.own (s.mem.next + 36) 0 (i + 1) 1) ((List.range (i + 1)).map (uF v)) 3 m5 := App.same hUm4 (by omega) (fun id n e h3 h4 => by
            cases e
            exact b4 _ (by omega) (fun n' e' => by have := (app_own H.hA e').2; omega))
          have s2 : ∀ id, id < 3 → m5.cell id = s.mem.cell id ∧ m5.mode id = s.mem.mode id := fun id h => by
            obtain ⟨p1, p2, _⟩ := b4 id (by omega) (fun n' e' => by have := (app_own H.hA e').1; omega)
            obtain ⟨q1, q2, _⟩ := low4 id (by omega)
            obtain ⟨r1, r2, _⟩ := a5 id (by omega) (fun n' e' => by have := (app_own H.hU e').1; omega)
            exact ⟨p1.trans (q1.trans r1), p2.trans (q2.trans r2)⟩
          have v2 : m5.mode 2 = .rw := (s2 2 (by omega)).2.trans H.m2
          have v20 : m5.cell 2 0 = some U := by rw [(s2 2 (by omega)).1]; exact H.c0
          have v21 : m5.cell 2 1 = some A := by rw [(s2 2 (by omega)).1]; exact H.c1
          have v23 : m5.cell 2 3 = some (.bool (anyF v i)) := by rw [(s2 2 (by omega)).1]; exact H.c3
          obtain ⟨uid, he1, he2, he3, he4, he5⟩ := App.get eBool_len hUm5 (i := i) (by simp)
          have hu : uid = s.mem.next + 36 := by injection he1 with h; exact h.symm
          subst hu
          have w0 := he5 0 (by omega)
          simp [eBool, huF] at w0
          have hix : indexAddrA Try.prog 34 (.own (s.mem.next + 36) 0 (i + 1) 1) (.int .i64 i) = some (.ptr (s.mem.next + 36) i) := by simp [indexAddrA]; omega
          have n36 : ¬ s.mem.next + 36 = 2 := by omega
          have any' : anyF v (i + 1) = (anyF v i || true) := by rw [anyF_succ, huF]
          have n5 : m5.next = s.mem.next + 46 := by omega
          cases hav : anyF v i <;> rw [hav] at v23 any'
          all_goals
            simp [b1, e0, e1, e4, e6, e18, e19, n2, v2, v20, v21, v23, hix, he4, w0, n36, wi]
            refine ⟨_, _, ⟨rfl, rfl⟩, ?_⟩
            simp [e0, e1, e4, e6, e18]
            refine ⟨by omega, i + 1, by omega, by simp, .own (s.mem.next + 36) 0 (i + 1) 1, .own (s.mem.next + 41) 0 (i + 1) 1, ?_⟩
            generalize hM9 : Mem.mk _ _ _ _ = M9
            have same9 : ∀ id, id ≠ 2 → M9.cell id = m5.cell id := fun id h => by rw [← hM9]; funext o; simp [h]
            have mode9 : M9.mode = m5.mode := by rw [← hM9]
            have siz9 : M9.siz = m5.siz := by rw [← hM9]
            have next9 : m5.next ≤ M9.next := by rw [← hM9]; simp
            refine ⟨by rw [mode9, (s2 0 (by omega)).2]; exact H.m0, by rw [mode9]; exact v2, fun o ho => by rw [same9 0 (by omega), (s2 0 (by omega)).1]; exact H.z o ho, by rw [← hM9]; simp, by rw [← hM9]; simp, by rw [← hM9]; simp [s2 2 (by omega), H.c2], by rw [← hM9]; simp [any'], by rw [← hM9]; simp [s2 2 (by omega), H.c4], by rw [← hM9]; simp [s2 2 (by omega), H.c5], by rw [← hM9]; simp [s2 2 (by omega), H.c6], by rw [← hM9]; simp [s2 2 (by omega), H.c7], by rw [← hM9]; simp [s2 2 (by omega), H.c8], fun id hid => ?_, by omega, ?_, ?_, ?_⟩
            · rw [mode9]
              exact b5 id (by omega) (by rw [← hM4]; simp only [upd]; rw [if_neg (by omega)]; exact a4 id (by omega))
            · exact App.same hUm5 next9 (fun id n e _ _ => by cases e; exact ⟨same9 _ (by omega), by rw [mode9], by rw [siz9]⟩)
            · exact App.same b2' next9 (fun id n e _ _ => by cases e; exact ⟨same9 _ (by omega), by rw [mode9], by rw [siz9]⟩)
            · intro id n n' h1 h2
              cases h1
              injection h2
              omega
        · have huF : uF v i = false := by simp [uF, h1, h2]
          simp [e0, e1, e4, e6, e18, e19, hi', g20, rateV, g21, hf, n2, m2, c20', h1, h2, callFoot, buildSliceA, zeros, List.range, List.range.loop]
          generalize hM2 : Mem.mk _ _ _ _ = M2
          have n2M : M2.next = s.mem.next + 46 := by rw [← hM2]
          have low2 : ∀ id, id < s.mem.next → M2.cell id = s.mem.cell id ∧ M2.mode id = s.mem.mode id ∧ M2.siz id = s.mem.siz id := fun id h => by
            have h1 : ¬ id = s.mem.next + 8 := by omega
            have h2 : ¬ id = s.mem.next + 35 := by omega
            rw [← hM2]
            exact ⟨by funext o; simp [h1, h2], by simp [upd, h1, h2], by simp [upd, h1, h2]⟩
          have dd2 : ∀ id, s.mem.next ≤ id → id ≠ s.mem.next + 8 → id ≠ s.mem.next + 35 → M2.mode id = .dead := fun id h h1 h2 => by
            rw [← hM2]; simp [upd, h1, h2]; exact hfr id h
          obtain ⟨inf, i1, i2, i3⟩ := inf4
          obtain ⟨m3, a1, a2, a3, a4, a5, a6⟩ := App.pushG2 (P := Try.prog) (t := 34) eBool_len Try.underlying34 i1 i2 (by omega) zc4 rfl (by omega) H.hU (by omega) (by simp; omega) (xid := s.mem.next + 35) (new := s.mem.next + 36) (v := uF v i) (M2 := M2) (by omega) low2
            (fun id h h2 => by
              by_cases h1 : id = s.mem.next + 8
              · right; omega
              · left; exact dd2 id h h1 h2)
            (by rw [← hM2]; simp) (by omega) (fun o ho => by rw [← hM2, huF]; simp [eBool]) (by omega) (by omega) (dd2 _ (by omega) (by omega) (by omega))
          simp only [List.length_map, List.length_range] at a1 a2
          have hAm : App eInt 1 A ((List.range i).map fun j => totF j b) 3 m3 := by
            refine App.same (App.same H.hA (m' := M2) (by omega) (fun id n _ h _ => low2 id h)) (by omega) (fun id n e h3 h4 => ?_)
            have hid : id < s.mem.next := by have := (app_own H.hA e).2; exact this
            obtain ⟨b1, b2, b3⟩ := a5 id hid (fun n' e' => H.ne id n' n e' e)
            obtain ⟨d1, d2, d3⟩ := low2 id hid
            exact ⟨b1.trans d1.symm, b2.trans d2.symm, b3.trans d3.symm⟩
          obtain ⟨x1, x2, _⟩ := a5 2 (by omega) (fun n e => by have := (app_own H.hU e).1; omega)
          obtain ⟨y1, y2, _⟩ := a5 0 (by omega) (fun n e => by have := (app_own H.hU e).1; omega)
          have z2 : m3.mode 2 = .rw := x2.trans H.m2
          have zc1 : m3.cell 2 1 = some A := by rw [x1]; exact H.c1
          have hf3 : ∀ n, m3.mode (s.mem.next + 46 + n) = .dead := fun n => a4 _ (by omega)
          have hd40 : m3.mode (s.mem.next + 40) = .dead := a6 _ (by omega) (dd2 _ (by omega) (by omega) (by omega))
          have u1 := App.noid H.hU (id := 2) (by omega)
          have u2 := App.noid H.hU (id := s.mem.next + 40) (by omega)
          have u3 := App.noid H.hU (id := s.mem.next + 41) (by omega)
          simp [a1, e0, e1, e4, e6, e18, e19, z2, zc1, hd40, n2, huF, u1, u2, u3, idsOf_own, buildSliceA, zeros, List.range, List.range.loop]
          generalize hM4 : Mem.mk _ _ _ _ = M4
          have n4 : M4.next = m3.next := by rw [← hM4]
          have low4 : ∀ id, id < s.mem.next → M4.cell id = m3.cell id ∧ M4.mode id = m3.mode id ∧ M4.siz id = m3.siz id := fun id h => by
            have h1 : ¬ id = s.mem.next + 40 := by omega
            rw [← hM4]
            exact ⟨by funext o; simp [h1], by simp [upd, h1], by simp [upd, h1]⟩
          have hAm4 : App eInt 1 A ((List.range i).map fun j => totF j b) 3 M4 := App.same hAm (by omega) (fun id n e h3 h4 => low4 id (by have := (app_own H.hA e).2; exact this))
          have hUm4 : App eBool 1 (.own (s.mem.next + 36) 0 (i + 1) 1) ((List.range (i + 1)).map (uF v)) 3 M4 := by
            have := App.same (m' := M4) a2 (by omega) (fun id n e h3 h4 => by
              cases e
              rw [← hM4]
              exact ⟨by funext o; simp, by simp [upd], by simp [upd]⟩)
            simpa [List.range_succ] using this
          obtain ⟨inf', j1, j2, j3⟩ := inf3
          obtain ⟨m5, b1, b2, b3, b4, b5⟩ := App.more (P := Try.prog) (t := 29) eInt_len Try.underlying29 j1 j2 (by omega) zc3 rfl (by omega) hAm4 (xid := s.mem.next + 40) (new := s.mem.next + 41) (v := totF i b) (by rw [← hM4]; simp) (fun o ho => by rw [← hM4]; simp [eInt]) (by omega)
            (by rw [← hM4]; simp [upd]; exact a6 _ (by omega) (dd2 _ (by omega) (by omega) (by omega))) (by omega) (by simp; omega)
          simp only [List.length_map, List.length_range] at b1 b2
          have b2' : App eInt 1 (.own (s.mem.next + 41) 0 (i + 1) 1) ((List.range (i + 1)).map fun j => totF j b) 3 m5 := by
            simpa [List.range_succ] using b2
          have hUm5 : App eBool 1 (.own (s.mem.next + 36) 0 (i + 1) 1) ((List.range (i + 1)).map (uF v)) 3 m5 := App.same hUm4 (by omega) (fun id n e h3 h4 => by
            cases e
            exact b4 _ (by omega) (fun n' e' => by have := (app_own H.hA e').2; omega))
          have s2 : ∀ id, id < 3 → m5.cell id = s.mem.cell id ∧ m5.mode id = s.mem.mode id := fun id h => by
            obtain ⟨p1, p2, _⟩ := b4 id (by omega) (fun n' e' => by have := (app_own H.hA e').1; omega)
            obtain ⟨q1, q2, _⟩ := low4 id (by omega)
            obtain ⟨r1, r2, _⟩ := a5 id (by omega) (fun n' e' => by have := (app_own H.hU e').1; omega)
            exact ⟨p1.trans (q1.trans r1), p2.trans (q2.trans r2)⟩
          have v2 : m5.mode 2 = .rw := (s2 2 (by omega)).2.trans H.m2
          have v20 : m5.cell 2 0 = some U := by rw [(s2 2 (by omega)).1]; exact H.c0
          have v21 : m5.cell 2 1 = some A := by rw [(s2 2 (by omega)).1]; exact H.c1
          have v23 : m5.cell 2 3 = some (.bool (anyF v i)) := by rw [(s2 2 (by omega)).1]; exact H.c3
          obtain ⟨uid, he1, he2, he3, he4, he5⟩ := App.get eBool_len hUm5 (i := i) (by simp)
          have hu : uid = s.mem.next + 36 := by injection he1 with h; exact h.symm
          subst hu
          have w0 := he5 0 (by omega)
          simp [eBool, huF] at w0
          have hix : indexAddrA Try.prog 34 (.own (s.mem.next + 36) 0 (i + 1) 1) (.int .i64 i) = some (.ptr (s.mem.next + 36) i) := by simp [indexAddrA]; omega
          have n36 : ¬ s.mem.next + 36 = 2 := by omega
          have any' : anyF v (i + 1) = (anyF v i || false) := by rw [anyF_succ, huF]
          have n5 : m5.next = s.mem.next + 46 := by omega
          cases hav : anyF v i <;> rw [hav] at v23 any'
          all_goals
            simp [b1, e0, e1, e4, e6, e18, e19, n2, v2, v20, v21, v23, hix, he4, w0, n36, wi]
            refine ⟨_, _, ⟨rfl, rfl⟩, ?_⟩
            simp [e0, e1, e4, e6, e18]
            refine ⟨by omega, i + 1, by omega, by simp, .own (s.mem.next + 36) 0 (i + 1) 1, .own (s.mem.next + 41) 0 (i + 1) 1, ?_⟩
            generalize hM9 : Mem.mk _ _ _ _ = M9
            have same9 : ∀ id, id ≠ 2 → M9.cell id = m5.cell id := fun id h => by rw [← hM9]; funext o; simp [h]
            have mode9 : M9.mode = m5.mode := by rw [← hM9]
            have siz9 : M9.siz = m5.siz := by rw [← hM9]
            have next9 : m5.next ≤ M9.next := by rw [← hM9]; simp
            refine ⟨by rw [mode9, (s2 0 (by omega)).2]; exact H.m0, by rw [mode9]; exact v2, fun o ho => by rw [same9 0 (by omega), (s2 0 (by omega)).1]; exact H.z o ho, by rw [← hM9]; simp, by rw [← hM9]; simp, by rw [← hM9]; simp [s2 2 (by omega), H.c2], by rw [← hM9]; simp [any'], by rw [← hM9]; simp [s2 2 (by omega), H.c4], by rw [← hM9]; simp [s2 2 (by omega), H.c5], by rw [← hM9]; simp [s2 2 (by omega), H.c6], by rw [← hM9]; simp [s2 2 (by omega), H.c7], by rw [← hM9]; simp [s2 2 (by omega), H.c8], fun id hid => ?_, by omega, ?_, ?_, ?_⟩
            · rw [mode9]
              exact b5 id (by omega) (by rw [← hM4]; simp only [upd]; rw [if_neg (by omega)]; exact a4 id (by omega))
            · exact App.same hUm5 next9 (fun id n e _ _ => by cases e; exact ⟨same9 _ (by omega), by rw [mode9], by rw [siz9]⟩)
            · exact App.same b2' next9 (fun id n e _ _ => by cases e; exact ⟨same9 _ (by omega), by rw [mode9], by rw [siz9]⟩)
            · intro id n n' h1 h2
              cases h1
              injection h2
              omega
        · have huF : uF v i = false := by simp [uF, h1, h2]
          simp [e0, e1, e4, e6, e18, e19, hi', g20, rateV, g21, hf, n2, m2, c20', h1, h2, callFoot, buildSliceA, zeros, List.range, List.range.loop]
          generalize hM2 : Mem.mk _ _ _ _ = M2
          have n2M : M2.next = s.mem.next + 46 := by rw [← hM2]
          have low2 : ∀ id, id < s.mem.next → M2.cell id = s.mem.cell id ∧ M2.mode id = s.mem.mode id ∧ M2.siz id = s.mem.siz id := fun id h => by
            have h1 : ¬ id = s.mem.next + 8 := by omega
            have h2 : ¬ id = s.mem.next + 35 := by omega
            rw [← hM2]
            exact ⟨by funext o; simp [h1, h2], by simp [upd, h1, h2], by simp [upd, h1, h2]⟩
          have dd2 : ∀ id, s.mem.next ≤ id → id ≠ s.mem.next + 8 → id ≠ s.mem.next + 35 → M2.mode id = .dead := fun id h h1 h2 => by
            rw [← hM2]; simp [upd, h1, h2]; exact hfr id h
          obtain ⟨inf, i1, i2, i3⟩ := inf4
          obtain ⟨m3, a1, a2, a3, a4, a5, a6⟩ := App.pushG2 (P := Try.prog) (t := 34) eBool_len Try.underlying34 i1 i2 (by omega) zc4 rfl (by omega) H.hU (by omega) (by simp; omega) (xid := s.mem.next + 35) (new := s.mem.next + 36) (v := uF v i) (M2 := M2) (by omega) low2
            (fun id h h2 => by
              by_cases h1 : id = s.mem.next + 8
              · right; omega
              · left; exact dd2 id h h1 h2)
            (by rw [← hM2]; simp) (by omega) (fun o ho => by rw [← hM2, huF]; simp [eBool]) (by omega) (by omega) (dd2 _ (by omega) (by omega) (by omega))
          simp only [List.length_map, List.length_range] at a1 a2
          have hAm : App eInt 1 A ((List.range i).map fun j => totF j b) 3 m3 := by
            refine App.same (App.same H.hA (m' := M2) (by omega) (fun id n _ h _ => low2 id h)) (by omega) (fun id n e h3 h4 => ?_)
            have hid : id < s.mem.next := by have := (app_own H.hA e).2; exact this
            obtain ⟨b1, b2, b3⟩ := a5 id hid (fun n' e' => H.ne id n' n e' e)
            obtain ⟨d1, d2, d3⟩ := low2 id hid
            exact ⟨b1.trans d1.symm, b2.trans d2.symm, b3.trans d3.symm⟩
          obtain ⟨x1, x2, _⟩ := a5 2 (by omega) (fun n e => by have := (app_own H.hU e).1; omega)
          obtain ⟨y1, y2, _⟩ := a5 0 (by omega) (fun n e => by have := (app_own H.hU e).1; omega)
          have z2 : m3.mode 2 = .rw := x2.trans H.m2
          have zc1 : m3.cell 2 1 = some A := by rw [x1]; exact H.c1
          have hf3 : ∀ n, m3.mode (s.mem.next + 46 + n) = .dead := fun n => a4 _ (by omega)
          have hd40 : m3.mode (s.mem.next + 40) = .dead := a6 _ (by omega) (dd2 _ (by omega) (by omega) (by omega))
          have u1 := App.noid H.hU (id := 2) (by omega)
          have u2 := App.noid H.hU (id := s.mem.next + 40) (by omega)
          have u3 := App.noid H.hU (id := s.mem.next + 41) (by omega)
          simp [a1, e0, e1, e4, e6, e18, e19, z2, zc1, hd40, n2, huF, u1, u2, u3, idsOf_own, buildSliceA, zeros, List.range, List.range.loop]
          generalize hM4 : Mem.mk _ _ _ _ = M4
          have n4 : M4.next = m3.next := by rw [← hM4]
          have low4 : ∀ id, id < s.mem.next → M4.cell id = m3.cell id ∧ M4.mode id = m3.mode id ∧ M4.siz id = m3.siz id := fun id h => by
            have h1 : ¬ id = s.mem.next + 40 := by omega
            rw [← hM4]
            exact ⟨by funext o; simp [h1], by simp [upd, h1], by simp [upd, h1]⟩
          have hAm4 : App eInt 1 A ((List.range i).map fun j => totF j b) 3 M4 := App.same hAm (by omega) (fun id n e h3 h4 => low4 id (by have := (app_own H.hA e).2; exact this))
          have hUm4 : App eBool 1 (.own (s.mem.next + 36) 0 (i + 1) 1) ((List.range (i + 1)).map (uF v)) 3 M4 := by
            have := App.same (m' := M4) a2 (by omega) (fun id n e h3 h4 => by
              cases e
              rw [← hM4]
              exact ⟨by funext o; simp, by simp [upd], by simp [upd]⟩)
            simpa [List.range_succ] using this
          obtain ⟨inf', j1, j2, j3⟩ := inf3
          obtain ⟨m5, b1, b2, b3, b4, b5⟩ := App.more (P := Try.prog) (t := 29) eInt_len Try.underlying29 j1 j2 (by omega) zc3 rfl (by omega) hAm4 (xid := s.mem.next + 40) (new := s.mem.next + 41) (v := totF i b) (by rw [← hM4]; simp) (fun o ho => by rw [← hM4]; simp [eInt]) (by omega)
            (by rw [← hM4]; simp [upd]; exact a6 _ (by omega) (dd2 _ (by omega) (by omega) (by omega))) (by omega) (by simp; omega)
          simp only [List.length_map, List.length_range] at b1 b2
          have b2' : App eInt 1 (.own (s.mem.next + 41) 0 (i + 1) 1) ((List.range (i + 1)).map fun j => totF j b) 3 m5 := by
            simpa [List.range_succ] using b2
          have hUm5 : App eBool 1 (.own (s.mem.next + 36) 0 (i + 1) 1) ((List.range (i + 1)).map (uF v)) 3 m5 := App.same hUm4 (by omega) (fun id n e h3 h4 => by
            cases e
            exact b4 _ (by omega) (fun n' e' => by have := (app_own H.hA e').2; omega))
          have s2 : ∀ id, id < 3 → m5.cell id = s.mem.cell id ∧ m5.mode id = s.mem.mode id := fun id h => by
            obtain ⟨p1, p2, _⟩ := b4 id (by omega) (fun n' e' => by have := (app_own H.hA e').1; omega)
            obtain ⟨q1, q2, _⟩ := low4 id (by omega)
            obtain ⟨r1, r2, _⟩ := a5 id (by omega) (fun n' e' => by have := (app_own H.hU e').1; omega)
            exact ⟨p1.trans (q1.trans r1), p2.trans (q2.trans r2)⟩
          have v2 : m5.mode 2 = .rw := (s2 2 (by omega)).2.trans H.m2
          have v20 : m5.cell 2 0 = some U := by rw [(s2 2 (by omega)).1]; exact H.c0
          have v21 : m5.cell 2 1 = some A := by rw [(s2 2 (by omega)).1]; exact H.c1
          have v23 : m5.cell 2 3 = some (.bool (anyF v i)) := by rw [(s2 2 (by omega)).1]; exact H.c3
          obtain ⟨uid, he1, he2, he3, he4, he5⟩ := App.get eBool_len hUm5 (i := i) (by simp)
          have hu : uid = s.mem.next + 36 := by injection he1 with h; exact h.symm
          subst hu
          have w0 := he5 0 (by omega)
          simp [eBool, huF] at w0
          have hix : indexAddrA Try.prog 34 (.own (s.mem.next + 36) 0 (i + 1) 1) (.int .i64 i) = some (.ptr (s.mem.next + 36) i) := by simp [indexAddrA]; omega
          have n36 : ¬ s.mem.next + 36 = 2 := by omega
          have any' : anyF v (i + 1) = (anyF v i || false) := by rw [anyF_succ, huF]
          have n5 : m5.next = s.mem.next + 46 := by omega
          cases hav : anyF v i <;> rw [hav] at v23 any'
          all_goals
            simp [b1, e0, e1, e4, e6, e18, e19, n2, v2, v20, v21, v23, hix, he4, w0, n36, wi]
            refine ⟨_, _, ⟨rfl, rfl⟩, ?_⟩
            simp [e0, e1, e4, e6, e18]
            refine ⟨by omega, i + 1, by omega, by simp, .own (s.mem.next + 36) 0 (i + 1) 1, .own (s.mem.next + 41) 0 (i + 1) 1, ?_⟩
            generalize hM9 : Mem.mk _ _ _ _ = M9
            have same9 : ∀ id, id ≠ 2 → M9.cell id = m5.cell id := fun id h => by rw [← hM9]; funext o; simp [h]
            have mode9 : M9.mode = m5.mode := by rw [← hM9]
            have siz9 : M9.siz = m5.siz := by rw [← hM9]
            have next9 : m5.next ≤ M9.next := by rw [← hM9]; simp
            refine ⟨by rw [mode9, (s2 0 (by omega)).2]; exact H.m0, by rw [mode9]; exact v2, fun o ho => by rw [same9 0 (by omega), (s2 0 (by omega)).1]; exact H.z o ho, by rw [← hM9]; simp, by rw [← hM9]; simp, by rw [← hM9]; simp [s2 2 (by omega), H.c2], by rw [← hM9]; simp [any'], by rw [← hM9]; simp [s2 2 (by omega), H.c4], by rw [← hM9]; simp [s2 2 (by omega), H.c5], by rw [← hM9]; simp [s2 2 (by omega), H.c6], by rw [← hM9]; simp [s2 2 (by omega), H.c7], by rw [← hM9]; simp [s2 2 (by omega), H.c8], fun id hid => ?_, by omega, ?_, ?_, ?_⟩
            · rw [mode9]
              exact b5 id (by omega) (by rw [← hM4]; simp only [upd]; rw [if_neg (by omega)]; exact a4 id (by omega))
            · exact App.same hUm5 next9 (fun id n e _ _ => by cases e; exact ⟨same9 _ (by omega), by rw [mode9], by rw [siz9]⟩)
            · exact App.same b2' next9 (fun id n e _ _ => by cases e; exact ⟨same9 _ (by omega), by rw [mode9], by rw [siz9]⟩)
            · intro id n n' h1 h2
              cases h1
              injection h2
              omega
        · have huF : uF v i = false := by simp [uF, h1, h2]
          simp [e0, e1, e4, e6, e18, e19, hi', g20, rateV, g21, hf, n2, m2, c20', h1, h2, callFoot, buildSliceA, zeros, List.range, List.range.loop]
          generalize hM2 : Mem.mk _ _ _ _ = M2
          have n2M : M2.next = s.mem.next + 46 := by rw [← hM2]
          have low2 : ∀ id, id < s.mem.next → M2.cell id = s.mem.cell id ∧ M2.mode id = s.mem.mode id ∧ M2.siz id = s.mem.siz id := fun id h => by
            have h1 : ¬ id = s.mem.next + 8 := by omega
            have h2 : ¬ id = s.mem.next + 35 := by omega
            rw [← hM2]
            exact ⟨by funext o; simp [h1, h2], by simp [upd, h1, h2], by simp [upd, h1, h2]⟩
          have dd2 : ∀ id, s.mem.next ≤ id → id ≠ s.mem.next + 8 → id ≠ s.mem.next + 35 → M2.mode id = .dead := fun id h h1 h2 => by
            rw [← hM2]; simp [upd, h1, h2]; exact hfr id h
          obtain ⟨inf, i1, i2, i3⟩ := inf4
          obtain ⟨m3, a1, a2, a3, a4, a5, a6⟩ := App.pushG2 (P := Try.prog) (t := 34) eBool_len Try.underlying34 i1 i2 (by omega) zc4 rfl (by omega) H.hU (by omega) (by simp; omega) (xid := s.mem.next + 35) (new := s.mem.next + 36) (v := uF v i) (M2 := M2) (by omega) low2
            (fun id h h2 => by
              by_cases h1 : id = s.mem.next + 8
              · right; omega
              · left; exact dd2 id h h1 h2)
            (by rw [← hM2]; simp) (by omega) (fun o ho => by rw [← hM2, huF]; simp [eBool]) (by omega) (by omega) (dd2 _ (by omega) (by omega) (by omega))
          simp only [List.length_map, List.length_range] at a1 a2
          have hAm : App eInt 1 A ((List.range i).map fun j => totF j b) 3 m3 := by
            refine App.same (App.same H.hA (m' := M2) (by omega) (fun id n _ h _ => low2 id h)) (by omega) (fun id n e h3 h4 => ?_)
            have hid : id < s.mem.next := by have := (app_own H.hA e).2; exact this
            obtain ⟨b1, b2, b3⟩ := a5 id hid (fun n' e' => H.ne id n' n e' e)
            obtain ⟨d1, d2, d3⟩ := low2 id hid
            exact ⟨b1.trans d1.symm, b2.trans d2.symm, b3.trans d3.symm⟩
          obtain ⟨x1, x2, _⟩ := a5 2 (by omega) (fun n e => by have := (app_own H.hU e).1; omega)
          obtain ⟨y1, y2, _⟩ := a5 0 (by omega) (fun n e => by have := (app_own H.hU e).1; omega)
          have z2 : m3.mode 2 = .rw := x2.trans H.m2
          have zc1 : m3.cell 2 1 = some A := by rw [x1]; exact H.c1
          have hf3 : ∀ n, m3.mode (s.mem.next + 46 + n) = .dead := fun n => a4 _ (by omega)
          have hd40 : m3.mode (s.mem.next + 40) = .dead := a6 _ (by omega) (dd2 _ (by omega) (by omega) (by omega))
          have u1 := App.noid H.hU (id := 2) (by omega)
          have u2 := App.noid H.hU (id := s.mem.next + 40) (by omega)
          have u3 := App.noid H.hU (id := s.mem.next + 41) (by omega)
          simp [a1, e0, e1, e4, e6, e18, e19, z2, zc1, hd40, n2, huF, u1, u2, u3, idsOf_own, buildSliceA, zeros, List.range, List.range.loop]
          generalize hM4 : Mem.mk _ _ _ _ = M4
          have n4 : M4.next = m3.next := by rw [← hM4]
          have low4 : ∀ id, id < s.mem.next → M4.cell id = m3.cell id ∧ M4.mode id = m3.mode id ∧ M4.siz id = m3.siz id := fun id h => by
            have h1 : ¬ id = s.mem.next + 40 := by omega
            rw [← hM4]
            exact ⟨by funext o; simp [h1], by simp [upd, h1], by simp [upd, h1]⟩
          have hAm4 : App eInt 1 A ((List.range i).map fun j => totF j b) 3 M4 := App.same hAm (by omega) (fun id n e h3 h4 => low4 id (by have := (app_own H.hA e).2; exact this))
          have hUm4 : App eBool 1 (.own (s.mem.next + 36) 0 (i + 1) 1) ((List.range (i + 1)).map (uF v)) 3 M4 := by
            have := App.same (m' := M4) a2 (by omega) (fun id n e h3 h4 => by
              cases e
              rw [← hM4]
              exact ⟨by funext o; simp, by simp [upd], by simp [upd]⟩)
            simpa [List.range_succ] using this
          obtain ⟨inf', j1, j2, j3⟩ := inf3
          obtain ⟨m5, b1, b2, b3, b4, b5⟩ := App.more (P := Try.prog) (t := 29) eInt_len Try.underlying29 j1 j2 (by omega) zc3 rfl (by omega) hAm4 (xid := s.mem.next + 40) (new := s.mem.next + 41) (v := totF i b) (by rw [← hM4]; simp) (fun o ho => by rw [← hM4]; simp [eInt]) (by omega)
            (by rw [← hM4]; simp [upd]; exact a6 _ (by omega) (dd2 _ (by omega) (by omega) (by omega))) (by omega) (by simp; omega)
          simp only [List.length_map, List.length_range] at b1 b2
          have b2' : App eInt 1 (.own (s.mem.next + 41) 0 (i + 1) 1) ((List.range (i + 1)).map fun j => totF j b) 3 m5 := by
            simpa [List.range_succ] using b2
          have hUm5 : App eBool 1 (.own (s.mem.next + 36) 0 (i + 1) 1) ((List.range (i + 1)).map (uF v)) 3 m5 := App.same hUm4 (by omega) (fun id n e h3 h4 => by
            cases e
            exact b4 _ (by omega) (fun n' e' => by have := (app_own H.hA e').2; omega))
          have s2 : ∀ id, id < 3 → m5.cell id = s.mem.cell id ∧ m5.mode id = s.mem.mode id := fun id h => by
            obtain ⟨p1, p2, _⟩ := b4 id (by omega) (fun n' e' => by have := (app_own H.hA e').1; omega)
            obtain ⟨q1, q2, _⟩ := low4 id (by omega)
            obtain ⟨r1, r2, _⟩ := a5 id (by omega) (fun n' e' => by have := (app_own H.hU e').1; omega)
            exact ⟨p1.trans (q1.trans r1), p2.trans (q2.trans r2)⟩
          have v2 : m5.mode 2 = .rw := (s2 2 (by omega)).2.trans H.m2
          have v20 : m5.cell 2 0 = some U := by rw [(s2 2 (by omega)).1]; exact H.c0
          have v21 : m5.cell 2 1 = some A := by rw [(s2 2 (by omega)).1]; exact H.c1
          have v23 : m5.cell 2 3 = some (.bool (anyF v i)) := by rw [(s2 2 (by omega)).1]; exact H.c3
          obtain ⟨uid, he1, he2, he3, he4, he5⟩ := App.get eBool_len hUm5 (i := i) (by simp)
          have hu : uid = s.mem.next + 36 := by injection he1 with h; exact h.symm
          subst hu
          have w0 := he5 0 (by omega)
          simp [eBool, huF] at w0
          have hix : indexAddrA Try.prog 34 (.own (s.mem.next + 36) 0 (i + 1) 1) (.int .i64 i) = some (.ptr (s.mem.next + 36) i) := by simp [indexAddrA]; omega
          have n36 : ¬ s.mem.next + 36 = 2 := by omega
          have any' : anyF v (i + 1) = (anyF v i || false) := by rw [anyF_succ, huF]
          have n5 : m5.next = s.mem.next + 46 := by omega
          cases hav : anyF v i <;> rw [hav] at v23 any'
          all_goals
            simp [b1, e0, e1, e4, e6, e18, e19, n2, v2, v20, v21, v23, hix, he4, w0, n36, wi]
            refine ⟨_, _, ⟨rfl, rfl⟩, ?_⟩
            simp [e0, e1, e4, e6, e18]
            refine ⟨by omega, i + 1, by omega, by simp, .own (s.mem.next + 36) 0 (i + 1) 1, .own (s.mem.next + 41) 0 (i + 1) 1, ?_⟩
            generalize hM9 : Mem.mk _ _ _ _ = M9
            have same9 : ∀ id, id ≠ 2 → M9.cell id = m5.cell id := fun id h => by rw [← hM9]; funext o; simp [h]
            have mode9 : M9.mode = m5.mode := by rw [← hM9]
            have siz9 : M9.siz = m5.siz := by rw [← hM9]
            have next9 : m5.next ≤ M9.next := by rw [← hM9]; simp
            refine ⟨by rw [mode9, (s2 0 (by omega)).2]; exact H.m0, by rw [mode9]; exact v2, fun o ho => by rw [same9 0 (by omega), (s2 0 (by omega)).1]; exact H.z o ho, by rw [← hM9]; simp, by rw [← hM9]; simp, by rw [← hM9]; simp [s2 2 (by omega), H.c2], by rw [← hM9]; simp [any'], by rw [← hM9]; simp [s2 2 (by omega), H.c4], by rw [← hM9]; simp [s2 2 (by omega), H.c5], by rw [← hM9]; simp [s2 2 (by omega), H.c6], by rw [← hM9]; simp [s2 2 (by omega), H.c7], by rw [← hM9]; simp [s2 2 (by omega), H.c8], fun id hid => ?_, by omega, ?_, ?_, ?_⟩
            · rw [mode9]
              exact b5 id (by omega) (by rw [← hM4]; simp only [upd]; rw [if_neg (by omega)]; exact a4 id (by omega))
            · exact App.same hUm5 next9 (fun id n e _ _ => by cases e; exact ⟨same9 _ (by omega), by rw [mode9], by rw [siz9]⟩)
            · exact App.same b2' next9 (fun id n e _ _ => by cases e; exact ⟨same9 _ (by omega), by rw [mode9], by rw [siz9]⟩)
            · intro id n n' h1 h2
              cases h1
              injection h2
              omega
      · have : i = 12 := by omega
        subst this
        simp [e0, e1, e4, e6, e18, e19]
        refine ⟨U, A, H.m0, H.m2, H.z, H.c0, H.c1, H.c2, H.c3, H.c4, H.c5, H.c6, H.c7, H.c8, Fresh.bump H.fresh _ _ _, Nat.le_trans H.nx (Nat.le_add_right _ _), H.hU.grow (Grow.bump _ _), H.hA.grow (Grow.bump _ _), H.ne⟩)
  obtain ⟨rfl, e0, e1, e4, e6, U, A, H⟩ := hp
  have m2 := H.m2
  have c22' := H.c2
  have c21' := H.c1
  have hlA := App.lenA (P := Try.prog) Try.underlying29 H.hA
  obtain ⟨us, hus⟩ : ∃ us, us = usF v := ⟨_, rfl⟩
  obtain ⟨ar, har⟩ : ∃ ar, ar = arF b := ⟨_, rfl⟩
  obtain ⟨av, hav⟩ : ∃ av, av = anyF v 12 := ⟨_, rfl⟩
  have H : TM us ar 0 av U A s'.mem := by rw [hus, har, hav]; exact H
  have lus : us.length = 12 := by rw [hus]; simp [usF]
  have lar : ar.length = 12 := by rw [har]; simp [arF]
  simp [e0, e1, e4, e6, m2, c22', c21', hlA]
  generalize hl2 : cCode C _ _ _ (.loop _) _ = r
  obtain ⟨e, s2, rfl, he, hp⟩ := loop_rule hl2 (fun q s => s.env 0 = .int .i64 v ∧ s.env 1 = .int .i64 b ∧ s.env 4 = .ptr 0 0 ∧ s.env 6 = .ptr 2 0 ∧ s.env 72 = A ∧ s.env 73 = .int .i64 12 ∧ ∃ i : Nat, i + q = 12 ∧ s.env 74 = .int .i64 (i : Nat) ∧ TM us ar (bestB us ar av i) av U A s.mem)
    (fun e s => e = .exit 2 ∧ s.env 0 = .int .i64 v ∧ s.env 1 = .int .i64 b ∧ s.env 4 = .ptr 0 0 ∧ s.env 6 = .ptr 2 0 ∧ TM us ar (bestB us ar av 12) av U A s.mem) 12 (by omega) (by
      refine ⟨by simp [e0], by simp [e1], by simp [e4], by simp [e6], by simp, by simp, 0, by simp, by simp, ?_⟩
      generalize hM9 : St.mem _ = M9
      simp only [] at hM9
      have same9 : ∀ id, id ≠ 2 → M9.cell id = s'.mem.cell id := fun id h => by rw [← hM9]; funext o; simp [h]
      have mode9 : M9.mode = s'.mem.mode := by rw [← hM9]
      have siz9 : M9.siz = s'.mem.siz := by rw [← hM9]
      have next9 : s'.mem.next ≤ M9.next := by rw [← hM9]; simp
      refine ⟨by rw [mode9]; exact H.m0, by rw [mode9]; exact H.m2, fun o ho => by rw [same9 0 (by omega)]; exact H.z o ho, by rw [← hM9]; simp [H.c0], by rw [← hM9]; simp [H.c1], by rw [← hM9]; simp [bestB], by rw [← hM9]; simp [H.c3], by rw [← hM9]; simp [H.c4], by rw [← hM9]; simp [H.c5], by rw [← hM9]; simp [H.c6], by rw [← hM9]; simp [H.c7], by rw [← hM9]; simp [H.c8], fun id hid => by rw [mode9]; exact H.fresh id (by omega), Nat.le_trans H.nx next9, ?_, ?_, H.ne⟩
      · exact App.same H.hU next9 (fun id n e _ h3 => ⟨same9 _ (by omega), by rw [mode9], by rw [siz9]⟩)
      · exact App.same H.hA next9 (fun id n e _ h3 => ⟨same9 _ (by omega), by rw [mode9], by rw [siz9]⟩)) (by
      rintro q s ⟨e0, e1, e4, e6, e72, e73, i, hiq, e74, H⟩
      by_cases hi : i < 12
      · have hi' : (i : Int) < 12 := by omega
        obtain ⟨uid, hu1, hu2, hu3, hu4, hu5⟩ := App.get eBool_len H.hU (i := i) (by omega)
        obtain ⟨aid, ha1, ha2, ha3, ha4, ha5⟩ := App.get eInt_len H.hA (i := i) (by omega)
        have wi : IntKind.i64.wrap ((i : Int) + 1) = ((i + 1 : Nat) : Int) := IntWalk.i64_in _ (by omega)
        have xu : indexAddrA Try.prog 34 U (.int .i64 i) = some (.ptr uid i) := by rw [hu1]; simp [indexAddrA, lus]; omega
        have xa : indexAddrA Try.prog 29 A (.int .i64 i) = some (.ptr aid i) := by rw [ha1]; simp [indexAddrA, lar]; omega
        have wu := hu5 0 (by omega)
        have wa := ha5 0 (by omega)
        simp [eBool] at wu
        simp [eInt] at wa
        have m2 := H.m2
        have d0 := H.c0
        have d1 := H.c1
        have d2 := H.c2
        have d3 := H.c3
        have hst := bestB_succ us ar av i
        unfold stepB at hst
        rw [List.getElem?_eq_getElem (by omega : i < us.length), List.getElem?_eq_getElem (by omega : i < ar.length)] at hst
        simp only [Option.getD_some] at hst
        have ha6 : ∀ c (hc : c < ar.length), s.mem.cell aid c = some (.int .i64 ar[c]) := fun c hc => by
          obtain ⟨aid', p1, p2, p3, p4, p5⟩ := App.get eInt_len H.hA (i := c) hc
          have : aid' = aid := by rw [ha1] at p1; injection p1 with h; exact h.symm
          subst this
          have := p5 0 (by omega)
          simpa [eInt] using this
        have hbl := bestB_lt us ar av i
        cases huv : us[i] <;> rw [huv] at hst wu <;> cases av
        · simp at hst
          rcases hbl with hb | ⟨c, hb, hci⟩
          · rw [hb] at hst d2
            simp at hst
            simp [e0, e1, e4, e6, e72, e73, e74, hi', xu, xa, wu, wa, hu4, ha4, m2, d0, d1, d2, d3, wi]
            exact ⟨by omega, i + 1, by omega, by simp, by rw [hst]; exact TM.setBest H _ _⟩
          · have xc : indexAddrA Try.prog 29 A (.int .i64 c) = some (.ptr aid c) := by rw [ha1]; simp [indexAddrA, lar]; omega
            have wc := ha6 c (by omega)
            have hc0 : ¬ (c : Int) < 0 := by omega
            rw [hb] at hst d2
            rw [if_neg hc0] at hst
            simp [List.getElem?_eq_getElem (show c < ar.length by omega)] at hst
            by_cases hlt : ar[i] < ar[c]
            · rw [if_pos hlt] at hst
              simp [e0, e1, e4, e6, e72, e73, e74, hi', xu, xa, wu, wa, hu4, ha4, m2, d0, d1, d2, d3, wi, xc, wc, hc0, hlt]
              exact ⟨by omega, i + 1, by omega, by simp, by rw [hst]; exact TM.setBest H _ _⟩
            · rw [if_neg hlt] at hst
              simp [e0, e1, e4, e6, e72, e73, e74, hi', xu, xa, wu, wa, hu4, ha4, m2, d0, d1, d2, d3, wi, xc, wc, hc0, hlt]
              exact ⟨by omega, i + 1, by omega, by simp, by rw [hst, ← hb]; exact TM.bump H _⟩
        · simp at hst
          simp [e0, e1, e4, e6, e72, e73, e74, hi', xu, xa, wu, wa, hu4, ha4, m2, d0, d1, d2, d3, wi]
          exact ⟨by omega, i + 1, by omega, by simp, by rw [hst]; exact TM.bump H _⟩
        · simp at hst
          rcases hbl with hb | ⟨c, hb, hci⟩
          · rw [hb] at hst d2
            simp at hst
            simp [e0, e1, e4, e6, e72, e73, e74, hi', xu, xa, wu, wa, hu4, ha4, m2, d0, d1, d2, d3, wi]
            exact ⟨by omega, i + 1, by omega, by simp, by rw [hst]; exact TM.setBest H _ _⟩
          · have xc : indexAddrA Try.prog 29 A (.int .i64 c) = some (.ptr aid c) := by rw [ha1]; simp [indexAddrA, lar]; omega
            have wc := ha6 c (by omega)
            have hc0 : ¬ (c : Int) < 0 := by omega
            rw [hb] at hst d2
            rw [if_neg hc0] at hst
            simp [List.getElem?_eq_getElem (show c < ar.length by omega)] at hst
            by_cases hlt : ar[i] < ar[c]
            · rw [if_pos hlt] at hst
              simp [e0, e1, e4, e6, e72, e73, e74, hi', xu, xa, wu, wa, hu4, ha4, m2, d0, d1, d2, d3, wi, xc, wc, hc0, hlt]
              exact ⟨by omega, i + 1, by omega, by simp, by rw [hst]; exact TM.setBest H _ _⟩
            · rw [if_neg hlt] at hst
              simp [e0, e1, e4, e6, e72, e73, e74, hi', xu, xa, wu, wa, hu4, ha4, m2, d0, d1, d2, d3, wi, xc, wc, hc0, hlt]
              exact ⟨by omega, i + 1, by omega, by simp, by rw [hst, ← hb]; exact TM.bump H _⟩
        · simp at hst
          rcases hbl with hb | ⟨c, hb, hci⟩
          · rw [hb] at hst d2
            simp at hst
            simp [e0, e1, e4, e6, e72, e73, e74, hi', xu, xa, wu, wa, hu4, ha4, m2, d0, d1, d2, d3, wi]
            exact ⟨by omega, i + 1, by omega, by simp, by rw [hst]; exact TM.setBest H _ _⟩
          · have xc : indexAddrA Try.prog 29 A (.int .i64 c) = some (.ptr aid c) := by rw [ha1]; simp [indexAddrA, lar]; omega
            have wc := ha6 c (by omega)
            have hc0 : ¬ (c : Int) < 0 := by omega
            rw [hb] at hst d2
            rw [if_neg hc0] at hst
            simp [List.getElem?_eq_getElem (show c < ar.length by omega)] at hst
            by_cases hlt : ar[i] < ar[c]
            · rw [if_pos hlt] at hst
              simp [e0, e1, e4, e6, e72, e73, e74, hi', xu, xa, wu, wa, hu4, ha4, m2, d0, d1, d2, d3, wi, xc, wc, hc0, hlt]
              exact ⟨by omega, i + 1, by omega, by simp, by rw [hst]; exact TM.setBest H _ _⟩
            · rw [if_neg hlt] at hst
              simp [e0, e1, e4, e6, e72, e73, e74, hi', xu, xa, wu, wa, hu4, ha4, m2, d0, d1, d2, d3, wi, xc, wc, hc0, hlt]
              exact ⟨by omega, i + 1, by omega, by simp, by rw [hst, ← hb]; exact TM.bump H _⟩
      · have : i = 12 := by omega
        subst this
        simp [e0, e1, e4, e6, e72, e73, e74]
        exact ⟨H.m0, H.m2, H.z, H.c0, H.c1, H.c2, H.c3, H.c4, H.c5, H.c6, H.c7, H.c8, Fresh.bump H.fresh _ _ _, Nat.le_trans H.nx (Nat.le_add_right _ _), H.hU.grow (Grow.bump _ _), H.hA.grow (Grow.bump _ _), H.ne⟩)
  obtain ⟨rfl, e0, e1, e4, e6, H⟩ := hp
  have hS := App.fzd 6 H.hA eInt_len (fun x _ a ha m => by simp [eInt] at ha; subst ha; rfl) (by omega)
  have hK := Kept.refl H.hA
  have hx : ∀ x ∈ ar, 1 ≤ x ∧ x ≤ 32767 := fun x hx => by
    rw [har] at hx
    obtain ⟨j, hj, rfl⟩ := List.mem_map.1 hx
    exact tot_most j (List.mem_range.1 hj) hb
  have g22 : ∀ n, cCall C T k 22 [A] { cell := s2.mem.cell, mode := s2.mem.mode, siz := s2.mem.siz, next := n } = some (.tup [.agg [.imm 12 ((ar.map ar0).flatMap eAR), .int .i64 0], .int .i64 0], { cell := s2.mem.cell, mode := fzMd A s2.mem.mode, siz := s2.mem.siz, next := n }) := fun n => by
    have := hS { cell := s2.mem.cell, mode := s2.mem.mode, siz := s2.mem.siz, next := n } (Kept.same hK (fun _ _ _ => rfl) (fun _ _ _ h => h))
    have h := c22 k (by omega) _ ar (sl_imm eInt ar) (by omega) hx [A] { cell := s2.mem.cell, mode := s2.mem.mode, siz := s2.mem.siz, next := n } _ (by simp [this]; rfl)
    rw [lar] at h
    exact h
  have m2 := H.m2
  have d1 := H.c1
  have q2 : fzMd A s2.mem.mode 2 = .rw := by rw [App.fzMd_other H.hA s2.mem.mode (by omega)]; exact m2
  have q0 : fzMd A s2.mem.mode 0 = .rw := by rw [App.fzMd_other H.hA s2.mem.mode (by omega)]; exact H.m0
  have qf : ∀ n, fzMd A s2.mem.mode (s2.mem.next + n) = .dead := fun n => by rw [App.fzMd_other H.hA s2.mem.mode (by omega)]; exact H.fresh _ (by omega)
  have hnx := H.nx
  have n2 : ∀ n, ¬ 2 = s2.mem.next + n := fun n => by omega
  have g23 := c23 k (by omega) v
  rw [found_any, ← hav] at g23
  have d0 := H.c0
  have d2 := H.c2
  have d3 := H.c3
  have d4 := H.c4
  have d5 := H.c5
  have d6 := H.c6
  have d7 := H.c7
  have d8 := H.c8
  obtain ⟨y0, z0⟩ := Option.isSome_iff_exists.1 (H.z 0 (by omega))
  obtain ⟨y1, z1⟩ := Option.isSome_iff_exists.1 (H.z 1 (by omega))
  obtain ⟨y2, z2⟩ := Option.isSome_iff_exists.1 (H.z 2 (by omega))
  obtain ⟨y3, z3⟩ := Option.isSome_iff_exists.1 (H.z 3 (by omega))
  obtain ⟨y4, z4⟩ := Option.isSome_iff_exists.1 (H.z 4 (by omega))
  obtain ⟨y5, z5⟩ := Option.isSome_iff_exists.1 (H.z 5 (by omega))
  obtain ⟨y6, z6⟩ := Option.isSome_iff_exists.1 (H.z 6 (by omega))
  obtain ⟨y7, z7⟩ := Option.isSome_iff_exists.1 (H.z 7 (by omega))
  obtain ⟨y8, z8⟩ := Option.isSome_iff_exists.1 (H.z 8 (by omega))
  obtain ⟨aid, ha1, ha2, ha3, ha4, ha5⟩ := App.get eInt_len H.hA (i := 0) (by omega)
  have ha6 : ∀ c (hc : c < ar.length), s2.mem.cell aid c = some (.int .i64 ar[c]) := fun c hc => by
    obtain ⟨aid', p1, p2, p3, p4, p5⟩ := App.get eInt_len H.hA (i := c) hc
    have : aid' = aid := by rw [ha1] at p1; injection p1 with h; exact h.symm
    subst this
    have := p5 0 (by omega)
    simpa [eInt] using this
  have hlA' := App.lenA (P := Try.prog) Try.underlying29 H.hA
  rw [lar] at hlA'
  have qa : fzMd A s2.mem.mode aid ≠ .dead := fzMd_live _ _ (by rw [ha4]; simp)
  have naid : ¬ aid = 2 := by omega
  have naid0 : ¬ aid = 0 := by omega
  have naid2 : ∀ n, ¬ aid = s2.mem.next + n := fun n => by omega
  have nU := App.noid H.hU (id := 2) (by omega)
  have fin : ∀ (M : Mem), (∀ id, 3 ≤ id → id < s2.mem.next → M.cell id = s2.mem.cell id ∧ M.mode id = fzMd A s2.mem.mode id) → True := fun _ _ => trivial
  cases hv : av with
  | false =>
    rw [hv] at g23 d3
    simp [e0, e1, e4, e6, m2, d0, d1, d2, d3, d6, d7, d8, g22, q2, q0, qf, n2, g23, d4, d5, hlA', z0, z1, z2, z3, z4, z5, z6, z7, z8]
    generalize hM : Mem.mk _ _ _ _ = M
    have cM : ∀ id, 3 ≤ id → id < s2.mem.next → M.cell id = s2.mem.cell id := fun id h1 h2 => by
      have g1 : ¬ id = s2.mem.next + 6 := by omega
      have g2 : ¬ id = 0 := by omega
      have g3 : ¬ id = 2 := by omega
      rw [← hM]; funext o; simp [g1, g2, g3]
    have mM : ∀ id, 3 ≤ id → id < s2.mem.next → M.mode id = fzMd A s2.mem.mode id := fun id h1 h2 => by
      have g1 : ¬ id = s2.mem.next + 6 := by omega
      rw [← hM]; simp [upd, g1]
    have kU := Kept.same (m' := M) (Kept.refl H.hU) (fun id n e => cM id (app_own H.hU e).1 (app_own H.hU e).2) (fun id n e h => by rw [mM id (app_own H.hU e).1 (app_own H.hU e).2]; exact fzMd_live _ _ h)
    have kA := Kept.same (m' := { M with mode := fzMd U M.mode }) (Kept.refl H.hA) (fun id n e => cM id (app_own H.hA e).1 (app_own H.hA e).2) (fun id n e h => fzMd_live _ _ (by rw [mM id (app_own H.hA e).1 (app_own H.hA e).2]; exact fzMd_live _ _ h))
    have fU := App.fzd 4 H.hU eBool_len (fun x _ a ha m => by simp [eBool] at ha; subst ha; rfl) (by omega) M kU
    have fA := App.fzd 4 H.hA eInt_len (fun x _ a ha m => by simp [eInt] at ha; subst ha; rfl) (by omega) _ kA
    rw [lus] at fU
    rw [lar] at fA
    have l1 : (usF v).length = 12 := by rw [← hus]; exact lus
    have l2 : (arF b).length = 12 := by rw [← har]; exact lar
    simp [fU, fA, eTun, tun0, l1, l2, hus, har, hav ▸ hv]
    try rw [← hv, hav]
  | true =>
    rw [hv] at g23 d3
    obtain ⟨c, hc1, hc2, hc3, hc4⟩ := best_eq v hb.1 (by rw [← hav]; exact hv)
    have hc2' := hc2
    rw [← hus, ← har, ← hav, hv] at hc2
    have xb : indexAddrA Try.prog 29 A (.int .i64 (bestF v 12 : Nat)) = some (.ptr aid (bestF v 12)) := by rw [ha1]; simp [indexAddrA, lar]; omega
    have xc : indexAddrA Try.prog 29 A (.int .i64 c) = some (.ptr aid c) := by rw [ha1]; simp [indexAddrA, lar]; omega
    have wb := ha6 (bestF v 12) (by omega)
    have wc := ha6 c (by omega)
    have eqv : ar[bestF v 12]'(by omega) = ar[c]'(by omega) := by
      simp only [har, arF, List.getElem_map, List.getElem_range]
      exact hc4
    rw [eqv] at wb
    rw [hv, hc2] at d2
    simp [e0, e1, e4, e6, m2, d0, d1, d2, d3, d6, d7, d8, g22, q2, q0, qf, qa, naid, naid0, naid2, n2, g23, d4, d5, hlA', z0, z1, z2, z3, z4, z5, z6, z7, z8, xb, xc, wb, wc]
    generalize hM : Mem.mk _ _ _ _ = M
    have cM : ∀ id, 3 ≤ id → id < s2.mem.next → M.cell id = s2.mem.cell id := fun id h1 h2 => by
      have g1 : ¬ id = s2.mem.next + 6 := by omega
      have g2 : ¬ id = 0 := by omega
      have g3 : ¬ id = 2 := by omega
      rw [← hM]; funext o; simp [g1, g2, g3]
    have mM : ∀ id, 3 ≤ id → id < s2.mem.next → M.mode id = fzMd A s2.mem.mode id := fun id h1 h2 => by
      have g1 : ¬ id = s2.mem.next + 6 := by omega
      rw [← hM]; simp [upd, g1]
    have kU := Kept.same (m' := M) (Kept.refl H.hU) (fun id n e => cM id (app_own H.hU e).1 (app_own H.hU e).2) (fun id n e h => by rw [mM id (app_own H.hU e).1 (app_own H.hU e).2]; exact fzMd_live _ _ h)
    have kA := Kept.same (m' := { M with mode := fzMd U M.mode }) (Kept.refl H.hA) (fun id n e => cM id (app_own H.hA e).1 (app_own H.hA e).2) (fun id n e h => fzMd_live _ _ (by rw [mM id (app_own H.hA e).1 (app_own H.hA e).2]; exact fzMd_live _ _ h))
    have fU := App.fzd 4 H.hU eBool_len (fun x _ a ha m => by simp [eBool] at ha; subst ha; rfl) (by omega) M kU
    have fA := App.fzd 4 H.hA eInt_len (fun x _ a ha m => by simp [eInt] at ha; subst ha; rfl) (by omega) _ kA
    rw [lus] at fU
    rw [lar] at fA
    have l1 : (usF v).length = 12 := by rw [← hus]; exact lus
    have l2 : (arF b).length = 12 := by rw [← har]; exact lar
    simp [fU, fA, eTun, tun0, l1, l2, hus, har, hav ▸ hv]
    rw [← hus, ← har]
    exact hc2.symm
end Go.Proofs.Ytmfdjipijifabab
end
section
/- The law of one station that learns its rate. -/
set_option linter.unusedVariables false
set_option linter.unusedSimpArgs false
set_option linter.unnecessarySimpa false
set_option maxRecDepth 100000
namespace Go.Proofs.Ytmfdjipijifabab
open Go.Ab

/-- The rates after c frames. -/
def rateN (v b : Int) (c j : Nat) : AR := ⟨totF j b, 0, 0, if j < c ∧ uF v j = true then 1000 else 0, decide (j < c)⟩
def ratesN (v b : Int) (c : Nat) : List AR := (List.range 12).map (rateN v b c)
theorem ratesN_len (v b : Int) (c : Nat) : (ratesN v b c).length = 12 := by simp [ratesN]
theorem ratesN_get (v b : Int) (c : Nat) {j : Nat} (hj : j < 12) : (ratesN v b c)[j]? = some (rateN v b c j) := by simp [ratesN, hj]
theorem ratesN_get' (v b : Int) (c : Nat) {j : Nat} (hj : j < (ratesN v b c).length) : (ratesN v b c)[j] = rateN v b c j := by simp [ratesN]
theorem rateN_ok {v b : Int} (hb : 0 ≤ b ∧ b ≤ 2304) (c : Nat) {j : Nat} (hj : j < 12) : (rateN v b c j).ok := by
  refine ⟨tot_most j hj hb, by simp [rateN], by simp [rateN], ?_, ?_⟩
  · simp only [rateN]; split <;> omega
  · simp only [rateN]
    by_cases h : j < c
    · left; simp [h]
    · right; simp [h]
theorem ratesN_ads {v b : Int} (hb : 0 ≤ b ∧ b ≤ 2304) (c : Nat) (hc : c ≤ 1000) : Ads (ratesN v b c) c := by
  refine ⟨by rw [ratesN_len]; omega, fun r hr => ?_, by omega⟩
  obtain ⟨j, hj, rfl⟩ := List.mem_map.1 hr
  exact rateN_ok hb c (List.mem_range.1 hj)
theorem ratesN_zero (v b : Int) : ratesN v b 0 = (arF b).map ar0 := by
  simp [ratesN, arF, rateN, ar0]

/-- The first of the greatest is found. -/
theorem firstF_is {l : List AR} {cmp : AR → AR → Int} {c : Nat} (hc : c < l.length) (h1 : ∀ j (hj : j < c), 0 < cmp l[c] (l[j]'(by omega))) (h2 : ∀ j (hj : j < l.length), c < j → ¬ 0 < cmp l[j] l[c]) :
    ∀ n, n ≤ l.length → c < n → firstF l cmp (-1) n = c := by
  intro n
  induction n with
  | zero => intro _ h; omega
  | succ n ih =>
    intro hn hcn
    rw [firstF_succ]
    unfold stepF
    rw [if_neg (by omega)]
    rcases Nat.lt_or_ge c n with h | h
    · rw [ih (by omega) h, if_neg (by omega), Int.toNat_natCast, List.getElem?_eq_getElem (show n < l.length by omega), List.getElem?_eq_getElem hc]
      simp only []
      rw [if_neg (h2 n (by omega) h)]
    · have : n = c := by omega
      subst this
      rcases firstF_lt l cmp (-1) n with hb | ⟨j, hb, hj⟩
      · rw [hb, if_pos (by omega)]
      · rw [hb, if_neg (by omega), Int.toNat_natCast, List.getElem?_eq_getElem hc, List.getElem?_eq_getElem (show j < l.length by omega)]
        simp only []
        rw [if_pos (h1 j hj)]

theorem div_anti {a b : Int} (ha : 0 < a) (h : a ≤ b) : 100000000 / b ≤ 100000000 / a := by
  apply Int.le_ediv_of_mul_le ha
  have h1 := Int.ediv_mul_le 100000000 (show b ≠ 0 by omega)
  have h2 : 0 ≤ 100000000 / b := Int.ediv_nonneg (by omega) (by omega)
  have h3 : 100000000 / b * a ≤ 100000000 / b * b := Int.mul_le_mul_of_nonneg_left h h2
  omega
theorem val_on {v b : Int} (hb : 0 ≤ b ∧ b ≤ 2304) {c j : Nat} (hc : 12 ≤ c) (hj : j < 12) (hu : uF v j = true) : valF (rateN v b c j) = 100000000 / totF j b ∧ 0 < 100000000 / totF j b := by
  have := tot_most j hj hb
  refine ⟨?_, ?_⟩
  · have h : j < c := by omega
    simp [valF, rateN, h, hu]
  · have h1 := div_anti (a := totF j b) (b := 32767) (by omega) (by omega)
    have : (100000000 : Int) / 32767 = 3051 := by decide
    omega
theorem val_off {v b : Int} {c j : Nat} (hu : uF v j = false) : valF (rateN v b c j) = 0 := by
  simp [valF, rateN, hu]
theorem by_pos_iff (f : AR → Int) (x y : AR) : 0 < byF f x y ↔ (f y < f x ∨ (f x = f y ∧ x.air < y.air)) := by
  unfold byF orF cmpI
  by_cases h1 : f x < f y
  · simp [h1]; omega
  · by_cases h2 : f y < f x
    · simp [h1, h2]
    · have : f x = f y := by omega
      by_cases h3 : y.air < x.air
      · simp [h1, h2, h3, this]; omega
      · by_cases h4 : x.air < y.air
        · simp [h1, h2, h3, h4, this]
        · simp [h1, h2, h3, h4, this]

/-- After each rate was tried, the chain begins with the best one. -/
theorem chain_best {v b : Int} (hb : 0 ≤ b ∧ b ≤ 2304) {c : Nat} (hc : 12 ≤ c) : firstF (ratesN v b c) (byF valF) (-1) (ratesN v b c).length = bestB (usF v) (arF b) (anyF v 12) 12 := by
  obtain ⟨p, hp, hpe⟩ := best_ex v b
  rw [hpe]
  have hlen := ratesN_len v b c
  rcases bestB_spec (usF v) (arF b) (anyF v 12) 12 with ⟨h1, h2⟩ | ⟨q, q1, q2, q3, q4, q5⟩
  · omega
  have hqp : q = p := by omega
  subst hqp
  have key : ∀ j, j < 12 → (j < q → 0 < byF valF (rateN v b c q) (rateN v b c j)) ∧ ¬ 0 < byF valF (rateN v b c j) (rateN v b c q) := by
    intro j hj
    have tq := tot_most q q1 hb
    have tj := tot_most j hj hb
    rw [by_pos_iff, by_pos_iff]
    have aq : (rateN v b c q).air = totF q b := rfl
    have aj : (rateN v b c j).air = totF j b := rfl
    rw [aq, aj]
    unfold okB at q3 q4 q5
    have r4 := q4 j hj
    have r5 := fun h => q5 j h
    rw [ar_get b q1, ar_get b hj] at r4
    rw [us_get v hj, ← uF_eq] at r4
    simp only [ar_get b q1, ar_get b hj, us_get v hj, ← uF_eq] at r5
    rw [us_get v q1, ← uF_eq] at q3
    cases ha : anyF v 12 with
    | false =>
      rw [ha] at r4 r5
      simp at r4 r5
      have hno : ∀ i, i < 12 → uF v i = false := fun i hi => by
        cases hu : uF v i with
        | false => rfl
        | true =>
          have : anyF v 12 = true := List.any_eq_true.2 ⟨i, List.mem_range.2 hi, hu⟩
          rw [ha] at this
          cases this
      rw [val_off (hno q q1), val_off (hno j hj)]
      exact ⟨fun h => by have := r5 h; omega, by omega⟩
    | true =>
      rw [ha] at q3 r4 r5
      simp at q3 r4 r5
      obtain ⟨e1, e2⟩ := val_on hb hc q1 q3
      rw [e1]
      cases hu : uF v j with
      | false =>
        rw [val_off hu]
        omega
      | true =>
        obtain ⟨e3, e4⟩ := val_on hb hc hj hu
        rw [e3]
        have r4' := r4 hu
        have d1 := div_anti (a := totF q b) (b := totF j b) (by omega) r4'
        refine ⟨fun h => ?_, by omega⟩
        have := r5 h hu
        omega
  refine firstF_is (by omega) (fun j hj => ?_) (fun j hj hqj => ?_) _ (Nat.le_refl _) (by omega)
  · rw [ratesN_get', ratesN_get']
    exact (key j (by omega)).1 hj
  · rw [ratesN_get', ratesN_get']
    exact (key j (by omega)).2

/-- Which rate is used for the frame number c; how many frames of c have arrived. -/
def pickN (v b : Int) (c : Nat) : Nat := if c < 12 then c else (bestB (usF v) (arF b) (anyF v 12) 12).toNat
def dueN (v : Int) (c : Nat) : Nat := ((List.range (min c 12)).filter (uF v)).length + if anyF v 12 = true then c - 12 else 0
theorem pickN_lt (v b : Int) (c : Nat) : pickN v b c < 12 := by
  unfold pickN
  obtain ⟨p, hp, hpe⟩ := best_ex v b
  rw [hpe]
  split <;> omega
theorem best_ok {v b : Int} {p : Nat} (hpe : bestB (usF v) (arF b) (anyF v 12) 12 = p) : uF v p = anyF v 12 := by
  rcases bestB_spec (usF v) (arF b) (anyF v 12) 12 with ⟨h1, h2⟩ | ⟨q, q1, q2, q3, q4, q5⟩
  · omega
  have hqp : q = p := by omega
  subst hqp
  unfold okB at q3
  rw [us_get v q1, ← uF_eq] at q3
  cases ha : anyF v 12 with
  | true => rw [ha] at q3; simpa using q3
  | false =>
    cases hu : uF v q with
    | false => rfl
    | true =>
      have : anyF v 12 = true := List.any_eq_true.2 ⟨q, List.mem_range.2 q1, hu⟩
      rw [ha] at this
      cases this
theorem dueN_succ (v b : Int) (c : Nat) : dueN v (c + 1) = dueN v c + if uF v (pickN v b c) = true then 1 else 0 := by
  unfold dueN pickN
  by_cases hc : c < 12
  · rw [if_pos hc, show min (c + 1) 12 = c + 1 by omega, show min c 12 = c by omega, List.range_succ, List.filter_append, List.length_append]
    cases hu : uF v c <;> simp [hu] <;> (try split) <;> omega
  · rw [if_neg hc, show min (c + 1) 12 = 12 by omega, show min c 12 = 12 by omega]
    obtain ⟨p, hp, hpe⟩ := best_ex v b
    have := best_ok hpe
    rw [hpe, Int.toNat_natCast, this]
    split <;> omega

/-- A report and a round. -/
theorem rates_step {v b : Int} (c : Nat) : ((ratesN v b c).set (pickN v b c) (tryF (rateN v b c (pickN v b c)) (if uF v (pickN v b c) = true then 1 else 0))).map rndF = ratesN v b (c + 1) := by
  have hp := pickN_lt v b c
  apply List.ext_getElem?
  intro j
  rw [List.getElem?_map]
  by_cases hj : j < 12
  · by_cases hjp : j = pickN v b c
    · rw [← hjp, List.getElem?_set_self (by rw [ratesN_len]; exact hj), ratesN_get v b (c + 1) hj]
      simp only [Option.map_some, Option.some.injEq]
      by_cases hc : c < 12
      · have hjc : j = c := by rw [hjp]; simp [pickN, hc]
        subst hjc
        cases hu : uF v j <;> simp [rndF, tryF, rateN, hu]
      · have hjc : j < c := by omega
        have hjc' : j < c + 1 := by omega
        cases hu : uF v j <;> simp [rndF, tryF, rateN, hu, hjc, hjc']
    · rw [List.getElem?_set_ne (by omega), ratesN_get v b c hj, ratesN_get v b (c + 1) hj]
      simp only [Option.map_some, Option.some.injEq]
      have : (j < c + 1) = (j < c) := by
        apply propext
        constructor
        · intro h
          rcases Nat.lt_or_ge j c with h' | h'
          · exact h'
          · have : j = c := by omega
            exfalso
            apply hjp
            unfold pickN
            rw [if_pos (by omega)]
            exact this
        · intro h; omega
      simp [rndF, rateN, this]
  · rw [List.getElem?_eq_none (by rw [List.length_set, ratesN_len]; omega), List.getElem?_eq_none (by rw [ratesN_len]; omega)]
    rfl

/-- A station after c frames. -/
def tunN (v b : Int) (c : Nat) (s : Int) : Tun := ⟨usF v, arF b, bestB (usF v) (arF b) (anyF v 12) 12, anyF v 12, ratesN v b c, c, c, dueN v c, s⟩
theorem tunN_zero (v b : Int) : tunN v b 0 0 = tun0 v b := by
  simp [tunN, tun0, ratesN_zero, dueN]
end Go.Proofs.Ytmfdjipijifabab
end

/- Part 9 of a proof in many texts, put together: definitions and lemmas. The theorem stands in the last text; no conditions. -/
import Derived.Test.YtmfdjipijifababPart8
section
/- The law's function: shares are compared. -/
set_option linter.unusedVariables false
set_option linter.unusedSimpArgs false
set_option linter.unnecessarySimpa false
set_option maxRecDepth 100000
namespace Go.Proofs.Ytmfdjipijifabab
open Go.Ab

noncomputable def lpj : Code := (loops (lp 2)).getD 0 .skip
noncomputable def lpk : Code := (loops lpj).getD 0 .skip

/-- What is laid while the rounds go. -/
structure Rn (n wid bid aid w lo2 : Nat) (ws : List Int) (ts : List Tun) (l : List Sh) (t : Nat) (m : Mem) : Prop where
  nx : wid < m.next ∧ bid < m.next ∧ aid < m.next ∧ w < m.next
  mW : m.mode wid ≠ .dead
  cW : ∀ o (h : o < ws.length), m.cell wid o = some (.int .i64 ws[o])
  mB : m.mode bid ≠ .dead
  cB : ∀ o, o < n → m.cell bid o = some (.bool true)
  hA : App eTun 9 (.own aid 0 n 9) ts lo2 m
  mw : m.mode w = .rw
  w0 : m.cell w 0 = some (.imm n (l.flatMap eSh))
  w1 : m.cell w 1 = some (.int .i64 t)
  fresh : Fresh m
theorem Rn.bump {n wid bid aid w lo2 : Nat} {ws : List Int} {ts : List Tun} {l : List Sh} {t : Nat} {m : Mem} (h : Rn n wid bid aid w lo2 ws ts l t m) (q : Nat) : Rn n wid bid aid w lo2 ws ts l t { cell := m.cell, mode := m.mode, siz := m.siz, next := m.next + q } :=
  ⟨by have := h.nx; simp only []; omega, h.mW, h.cW, h.mB, h.cB, h.hA.grow (Grow.bump _ _), h.mw, h.w0, h.w1, Fresh.bump h.fresh _ _ _⟩

theorem mul_range {x y X Y : Int} (hx : 0 ≤ x ∧ x ≤ X) (hy : 0 ≤ y ∧ y ≤ Y) : 0 ≤ x * y ∧ x * y ≤ X * Y :=
  ⟨Int.mul_nonneg hx.1 hy.1, Int.mul_le_mul hx.2 hy.2 hy.1 (by omega)⟩

/-- What is compared. -/
structure Cmp (n : Nat) (ws : List Int) (ts : List Tun) (long : Int) : Prop where
  lw : ws.length = n
  lt : ts.length = n
  w : ∀ i (h : i < ws.length), 1 ≤ ws[i] ∧ ws[i] ≤ 16
  s : ∀ i (h : i < ts.length), 0 ≤ ts[i].spent ∧ ts[i].spent ≤ 100000000
  lg : 0 ≤ long ∧ long ≤ 32767
  law : ∀ i k (hi : i < n) (hk : k < n), (ts[i]'(by omega)).spent * (ws[k]'(by omega)) - (ts[k]'(by omega)).spent * (ws[i]'(by omega)) ≤ (2000 + long) * (ws[i]'(by omega)) * (ws[k]'(by omega))

set_option maxHeartbeats 8000000 in
theorem lpk_eq (k : Nat) {n wid bid aid w lo2 : Nat} {ws : List Int} {ts : List Tun} {l : List Sh} {t : Nat} {long : Int} (hk : n + 5 ≤ k) (hn : n ≤ 6) (hC : Cmp n ws ts long) (a mn R i j : AVal) (j0 : Nat) (hj : j0 < n) (s : St)
    (h0 : s.env 0 = a) (h6 : s.env 6 = .own wid 0 n 1) (h9 : s.env 9 = .own aid 0 n 9) (h10 : s.env 10 = mn) (h19 : s.env 19 = .ptr w 0) (h21 : s.env 21 = .int .i64 long) (h29 : s.env 29 = .int .i64 (j0 : Nat)) (h144 : s.env 144 = R) (h145 : s.env 145 = i) (h191 : s.env 191 = .int .i64 n) (h192 : s.env 192 = j) (h196 : s.env 196 = .int .i64 n) (h197 : s.env 197 = .int .i64 0)
    (H : Rn n wid bid aid w lo2 ws ts l t s.mem) :
    ∃ s', cCode C (cCall C T k) (T 3) k (.loop lpk) s = some (.exit 8, s') ∧ s'.env 0 = a ∧ s'.env 6 = .own wid 0 n 1 ∧ s'.env 9 = .own aid 0 n 9 ∧ s'.env 10 = mn ∧ s'.env 19 = .ptr w 0 ∧ s'.env 21 = .int .i64 long ∧ s'.env 144 = R ∧ s'.env 145 = i ∧ s'.env 191 = .int .i64 n ∧ s'.env 192 = j ∧ Rn n wid bid aid w lo2 ws ts l t s'.mem := by
  generalize hl2 : cCode C _ _ _ (.loop _) _ = r
  simp only [lpk, lpj, lp, loops, codeOf, Try.f3, List.nil_append, List.cons_append, List.append_nil, List.getD_cons_zero, List.getD_cons_succ, Option.getD_some] at hl2
  obtain ⟨e, s', rfl, he, hp⟩ := loop_rule hl2 (fun q s => s.env 0 = a ∧ s.env 6 = .own wid 0 n 1 ∧ s.env 9 = .own aid 0 n 9 ∧ s.env 10 = mn ∧ s.env 19 = .ptr w 0 ∧ s.env 21 = .int .i64 long ∧ s.env 29 = .int .i64 (j0 : Nat) ∧ s.env 144 = R ∧ s.env 145 = i ∧ s.env 191 = .int .i64 n ∧ s.env 192 = j ∧ s.env 196 = .int .i64 n ∧ Rn n wid bid aid w lo2 ws ts l t s.mem ∧ ∃ x, x + q = n ∧ s.env 197 = .int .i64 (x : Nat))
    (fun e s => e = .exit 8 ∧ s.env 0 = a ∧ s.env 6 = .own wid 0 n 1 ∧ s.env 9 = .own aid 0 n 9 ∧ s.env 10 = mn ∧ s.env 19 = .ptr w 0 ∧ s.env 21 = .int .i64 long ∧ s.env 144 = R ∧ s.env 145 = i ∧ s.env 191 = .int .i64 n ∧ s.env 192 = j ∧ Rn n wid bid aid w lo2 ws ts l t s.mem) n (by omega) ⟨h0, h6, h9, h10, h19, h21, h29, h144, h145, h191, h192, h196, H, 0, by omega, h197⟩ (by
      rintro q s ⟨e0, e6, e9, e10, e19, e21, e29, e144, e145, e191, e192, e196, H, x, hxq, e197⟩
      by_cases hx : x < n
      · have hx' : (x : Int) < n := by omega
        have wi : IntKind.i64.wrap ((x : Int) + 1) = ((x + 1 : Nat) : Int) := IntWalk.i64_in _ (by omega)
        have lw := hC.lw
        have lt := hC.lt
        obtain ⟨_, he1, he2, he3, he4, he5⟩ := App.get eTun_len H.hA (i := j0) (by omega)
        injection he1 with h; subst h
        obtain ⟨_, ge1, ge2, ge3, ge4, ge5⟩ := App.get eTun_len H.hA (i := x) (by omega)
        injection ge1 with h; subst h
        have y1 : s.mem.cell aid (j0 * 9 + 8) = some (.int .i64 (ts[j0]'(by omega)).spent) := he5 8 (by omega)
        have y2 : s.mem.cell aid (x * 9 + 8) = some (.int .i64 (ts[x]'(by omega)).spent) := ge5 8 (by omega)
        have x1 := H.cW j0 (by omega)
        have x2 := H.cW x (by omega)
        have mW := H.mW
        have ix1 : indexAddrA Try.prog 33 (.own aid 0 n 9) (.int .i64 j0) = some (.ptr aid (j0 * 9)) := by simp [indexAddrA, hj]
        have ix2 : indexAddrA Try.prog 33 (.own aid 0 n 9) (.int .i64 x) = some (.ptr aid (x * 9)) := by simp [indexAddrA, hx]
        have ix3 : indexAddrA Try.prog 29 (.own wid 0 n 1) (.int .i64 j0) = some (.ptr wid j0) := by simp [indexAddrA, hj]
        have ix4 : indexAddrA Try.prog 29 (.own wid 0 n 1) (.int .i64 x) = some (.ptr wid x) := by simp [indexAddrA, hx]
        have hlaw := hC.law j0 x hj hx
        have b1 := hC.w j0 (by omega)
        have b2 := hC.w x (by omega)
        have b3 := hC.s j0 (by omega)
        have b4 := hC.s x (by omega)
        have b5 := hC.lg
        obtain ⟨wj, hwj⟩ : ∃ y, y = ws[j0]'(by omega) := ⟨_, rfl⟩
        obtain ⟨wx, hwx⟩ : ∃ y, y = ws[x]'(by omega) := ⟨_, rfl⟩
        obtain ⟨sj, hsj⟩ : ∃ y, y = (ts[j0]'(by omega)).spent := ⟨_, rfl⟩
        obtain ⟨sx, hsx⟩ : ∃ y, y = (ts[x]'(by omega)).spent := ⟨_, rfl⟩
        rw [← hwj] at x1 b1 hlaw
        rw [← hwx] at x2 b2 hlaw
        rw [← hsj] at y1 b3 hlaw
        rw [← hsx] at y2 b4 hlaw
        have r1 := mul_range (x := sj) (y := wx) b3 ⟨by omega, b2.2⟩
        have r2 := mul_range (x := sx) (y := wj) b4 ⟨by omega, b1.2⟩
        have r3 := mul_range (x := 2000 + long) (X := 34767) (y := wj) (by omega) ⟨by omega, b1.2⟩
        have r4 := mul_range (x := (2000 + long) * wj) (y := wx) r3 ⟨by omega, b2.2⟩
        have w1 : IntKind.i64.wrap (sj * wx) = sj * wx := IntWalk.i64_in _ (by omega)
        have w2 : IntKind.i64.wrap (sx * wj) = sx * wj := IntWalk.i64_in _ (by omega)
        have w3 : IntKind.i64.wrap (sj * wx - sx * wj) = sj * wx - sx * wj := IntWalk.i64_in _ (by omega)
        have w4 : IntKind.i64.wrap (2000 + long) = 2000 + long := IntWalk.i64_in _ (by omega)
        have w5 : IntKind.i64.wrap ((2000 + long) * wj) = (2000 + long) * wj := IntWalk.i64_in _ (by omega)
        have w6 : IntKind.i64.wrap ((2000 + long) * wj * wx) = (2000 + long) * wj * wx := IntWalk.i64_in _ (by omega)
        have hno : ¬ (2000 + long) * wj * wx < sj * wx - sx * wj := by omega
        simp [e0, e6, e9, e10, e19, e21, e29, e144, e145, e191, e192, e196, e197, hx', ix1, ix2, ix3, ix4, he4, mW, y1, y2, x1, x2, w1, w2, w3, w4, w5, w6, hno, wi]
        exact ⟨by omega, H.bump 39, x + 1, by omega, by simp⟩
      · simp [e0, e6, e9, e10, e19, e21, e29, e144, e145, e191, e192, e196, e197, hx]
        exact H.bump 1)
  obtain ⟨rfl, h⟩ := hp
  exact ⟨s', rfl, h⟩

set_option maxHeartbeats 8000000 in
theorem lpj_eq (k : Nat) {n wid bid aid w lo2 : Nat} {ws : List Int} {ts : List Tun} {l : List Sh} {t : Nat} {long : Int} (hk : n + 5 ≤ k) (hn : n ≤ 6) (hC : Cmp n ws ts long) (a mn R i : AVal) (s : St)
    (h0 : s.env 0 = a) (h6 : s.env 6 = .own wid 0 n 1) (h9 : s.env 9 = .own aid 0 n 9) (h10 : s.env 10 = mn) (h19 : s.env 19 = .ptr w 0) (h21 : s.env 21 = .int .i64 long) (h144 : s.env 144 = R) (h145 : s.env 145 = i) (h191 : s.env 191 = .int .i64 n) (h192 : s.env 192 = .int .i64 0)
    (H : Rn n wid bid aid w lo2 ws ts l t s.mem) :
    ∃ s', cCode C (cCall C T k) (T 3) k (.loop lpj) s = some (.exit 6, s') ∧ s'.env 0 = a ∧ s'.env 6 = .own wid 0 n 1 ∧ s'.env 9 = .own aid 0 n 9 ∧ s'.env 10 = mn ∧ s'.env 19 = .ptr w 0 ∧ s'.env 21 = .int .i64 long ∧ s'.env 144 = R ∧ s'.env 145 = i ∧ Rn n wid bid aid w lo2 ws ts l t s'.mem := by
  generalize hl2 : cCode C _ _ _ (.loop _) _ = r
  simp only [lpj, lp, loops, codeOf, Try.f3, List.nil_append, List.cons_append, List.append_nil, List.getD_cons_zero, List.getD_cons_succ, Option.getD_some] at hl2
  obtain ⟨e, s', rfl, he, hp⟩ := loop_rule hl2 (fun q s => s.env 0 = a ∧ s.env 6 = .own wid 0 n 1 ∧ s.env 9 = .own aid 0 n 9 ∧ s.env 10 = mn ∧ s.env 19 = .ptr w 0 ∧ s.env 21 = .int .i64 long ∧ s.env 144 = R ∧ s.env 145 = i ∧ s.env 191 = .int .i64 n ∧ Rn n wid bid aid w lo2 ws ts l t s.mem ∧ ∃ x, x + q = n ∧ s.env 192 = .int .i64 (x : Nat))
    (fun e s => e = .exit 6 ∧ s.env 0 = a ∧ s.env 6 = .own wid 0 n 1 ∧ s.env 9 = .own aid 0 n 9 ∧ s.env 10 = mn ∧ s.env 19 = .ptr w 0 ∧ s.env 21 = .int .i64 long ∧ s.env 144 = R ∧ s.env 145 = i ∧ Rn n wid bid aid w lo2 ws ts l t s.mem) n (by omega) ⟨h0, h6, h9, h10, h19, h21, h144, h145, h191, H, 0, by omega, h192⟩ (by
      rintro q s ⟨e0, e6, e9, e10, e19, e21, e144, e145, e191, H, x, hxq, e192⟩
      by_cases hx : x < n
      · have hx' : (x : Int) < n := by omega
        have wi : IntKind.i64.wrap ((x : Int) + 1) = ((x + 1 : Nat) : Int) := IntWalk.i64_in _ (by omega)
        have hla : lenA Try.prog 33 (.own aid 0 n 9) = some (.int .i64 n) := by simp [lenA]
        simp [e0, e6, e9, e10, e19, e21, e144, e145, e191, e192, hx', hla]
        generalize hl3 : cCode C _ _ _ (.loop _) _ = r3
        generalize hst : St.mk _ _ = s1 at hl3
        obtain ⟨s2, p1, p2, p3, p4, p5, p6, p7, p8, p9, p10, p11, p12⟩ := lpk_eq (wid := wid) (bid := bid) (aid := aid) (w := w) (lo2 := lo2) (l := l) (t := t) k hk hn hC a mn R i (.int .i64 (x : Nat)) x hx s1 (by simp [← hst, e0]) (by simp [← hst, e6]) (by simp [← hst, e9]) (by simp [← hst, e10]) (by simp [← hst, e19]) (by simp [← hst, e21]) (by simp [← hst]) (by simp [← hst, e144]) (by simp [← hst, e145]) (by simp [← hst, e191]) (by simp [← hst, e192]) (by simp [← hst]) (by simp [← hst]) (by rw [← hst]; exact H.bump 6)
        have := hl3.symm.trans p1
        subst this
        simp [p2, p3, p4, p5, p6, p7, p8, p9, p10, p11, wi]
        refine ⟨_, _, ⟨rfl, rfl⟩, ?_⟩
        simp [p2, p3, p4, p5, p6, p7, p8, p9, p10]
        exact ⟨by omega, p12.bump 2, x + 1, by omega, by simp⟩
      · simp [e0, e6, e9, e10, e19, e21, e144, e145, e191, e192, hx]
        exact H.bump 1)
  obtain ⟨rfl, h⟩ := hp
  exact ⟨s', rfl, h⟩
end Go.Proofs.Ytmfdjipijifabab
end
section
/- The law's function: the rounds. -/
set_option linter.unusedVariables false
set_option linter.unusedSimpArgs false
set_option linter.unnecessarySimpa false
set_option maxRecDepth 100000
namespace Go.Proofs.Ytmfdjipijifabab
open Go.Ab

def cor0 : Cor := ⟨0, 0, 0, 0, 0⟩
noncomputable def tsN (l : List Cor) (cn : Nat → Nat) (sp : Nat → Int) : List Tun := (List.range l.length).map fun j => tunN (vOf (l.getD j cor0)) (bOf (l.getD j cor0)) (cn j) (sp j)
theorem tsN_len (l : List Cor) (cn : Nat → Nat) (sp : Nat → Int) : (tsN l cn sp).length = l.length := by simp [tsN]
theorem tsN_get (l : List Cor) (cn : Nat → Nat) (sp : Nat → Int) {j : Nat} (h : j < (tsN l cn sp).length) : (tsN l cn sp)[j] = tunN (vOf (l.getD j cor0)) (bOf (l.getD j cor0)) (cn j) (sp j) := by simp [tsN]
theorem tsN_set (l : List Cor) (cn : Nat → Nat) (sp : Nat → Int) {i : Nat} (hi : i < l.length) (c : Nat) (s : Int) : (tsN l cn sp).set i (tunN (vOf (l.getD i cor0)) (bOf (l.getD i cor0)) c s) = tsN l (fun j => if j = i then c else cn j) (upd sp i s) := by
  apply List.ext_getElem?
  intro j
  by_cases hj : j = i
  · subst hj
    rw [List.getElem?_set_self (by rw [tsN_len]; exact hi)]
    simp [tsN, hi, upd]
  · rw [List.getElem?_set_ne (fun e => hj e.symm)]
    by_cases h : j < l.length
    · simp [tsN, h, upd, hj]
    · rw [List.getElem?_eq_none (by rw [tsN_len]; omega), List.getElem?_eq_none (by rw [tsN_len]; omega)]
theorem tsN_zero (l : List Cor) : tsN l (fun _ => 0) (fun _ => 0) = l.map tOf := by
  apply List.ext_getElem?
  intro j
  by_cases h : j < l.length
  · simp [tsN, h, tunN_zero, tOf]
  · rw [List.getElem?_eq_none (by rw [tsN_len]; omega), List.getElem?_eq_none (by simp; omega)]

/-- The stations that are busy, frozen. -/
theorem Rn.fzB {n wid bid aid w lo2 : Nat} {ws : List Int} {ts : List Tun} {l : List Sh} {t : Nat} {m : Mem} (h : Rn n wid bid aid w lo2 ws ts l t m) (d : Nat) : freezeV (d + 2) (.own bid 0 n 1) m = some (.imm n ((List.replicate n true).flatMap eBool), { m with mode := upd m.mode bid .ro }) := by
  have hfl : ((List.replicate n true).flatMap eBool).length = n := by rw [flatMap_len eBool_len]; simp
  have he : ∀ q : Nat, (List.replicate q true).flatMap eBool = List.replicate q (.bool true) := fun q => by
    induction q with
    | zero => rfl
    | succ q ih => rw [List.replicate_succ, List.flatMap_cons, ih]; rfl
  have hc : cellsAt m bid 0 (n * 1) = some ((List.replicate n true).flatMap eBool) := by
    have := cellsAt_of (m := m) (id := bid) ((List.replicate n true).flatMap eBool) 0 (fun o ho => by
      rw [hfl] at ho
      rw [Nat.zero_add, h.cB o ho, he]
      simp [ho])
    rw [hfl] at this
    rw [Nat.mul_one]
    exact this
  rw [freezeV, if_neg h.mB, hc]
  simp only []
  rw [freezeL_same _ _ (fun a hm m => ?_)]
  rw [he] at hm
  rw [(List.mem_replicate.1 hm).2]
  rfl

theorem Rn.mono {n wid bid aid w lo2 : Nat} {ws : List Int} {ts : List Tun} {l : List Sh} {t : Nat} {m m' : Mem} (h : Rn n wid bid aid w lo2 ws ts l t m) (d1 : wid ≠ bid) (d3 : bid ≠ aid) (d5 : w ≠ bid) (hn : m.next ≤ m'.next) (hc : ∀ id, id < m.next → m'.cell id = m.cell id) (hm : ∀ id, id < m.next → id ≠ bid → m'.mode id = m.mode id) (hb : m'.mode bid ≠ .dead) (hs : ∀ id, id < m.next → m'.siz id = m.siz id) (hf : Fresh m') :
    Rn n wid bid aid w lo2 ws ts l t m' := by
  obtain ⟨n1, n2, n3, n4⟩ := h.nx
  refine ⟨by omega, by rw [hm wid n1 d1]; exact h.mW, fun o ho => by rw [hc wid n1]; exact h.cW o ho, hb, fun o ho => by rw [hc bid n2]; exact h.cB o ho, App.same h.hA hn (fun id k e _ _ => ?_), by rw [hm w n4 d5]; exact h.mw, by rw [hc w n4]; exact h.w0, by rw [hc w n4]; exact h.w1, hf⟩
  injection e with e
  subst e
  exact ⟨hc _ n3, hm _ n3 (fun e => d3 e.symm), hs _ n3⟩

theorem Shs.pay {l : List Sh} {t : Nat} (hS : Shs l t) (ht : t < l.length) (hc : 0 < l[t].c) {air : Int} (ha : 1 ≤ air ∧ air ≤ 32767) : Shs (l.set t (Ytmfdjipijifabab.pay l[t] air)) t := by
  refine ⟨by rw [List.length_set]; exact hS.len, by rw [List.length_set]; exact ht, fun r hr => ?_⟩
  rcases List.mem_or_eq_of_mem_set hr with h | h
  · exact hS.ok r h
  · have h1 := (hS.ok _ (List.getElem_mem ht)).w
    have h2 := (hS.ok _ (List.getElem_mem ht)).c
    rw [h]
    exact ⟨h1, by simp only [Ytmfdjipijifabab.pay]; omega⟩

set_option maxHeartbeats 8000000 in
theorem lp2_eq (k : Nat) (hk : 2600100 ≤ k) (l : List Cor) (hl : 1 ≤ l.length ∧ l.length ≤ 6) (n : Nat) (hn : n = l.length) {wid bid aid w lo2 : Nat} (a : AVal) (ha : SL eCor a l) (R : Nat) (hR : R ≤ 300)
    (d1 : wid ≠ bid) (d2 : wid ≠ aid) (d3 : bid ≠ aid) (d4 : w ≠ wid) (d5 : w ≠ bid) (d6 : w ≠ aid) (hlo : lo2 ≤ aid) (s : St)
    (h0 : s.env 0 = a) (h6 : s.env 6 = .own wid 0 n 1) (h9 : s.env 9 = .own aid 0 n 9) (h10 : s.env 10 = .own bid 0 n 1) (h19 : s.env 19 = .ptr w 0) (h21 : s.env 21 = .int .i64 0) (h144 : s.env 144 = .int .i64 R) (h145 : s.env 145 = .int .i64 0)
    (H : Rn n wid bid aid w lo2 (l.map wOf) (tsN l (fun _ => 0) (fun _ => 0)) ((l.map wOf).map sh0) 0 s.mem) :
    ∃ s' cn sp, cCode C (cCall C T k) (T 3) k (.loop (lp 2)) s = some (.exit 4, s') ∧ (∀ j, cn j ≤ 300) ∧ s'.env 0 = a ∧ s'.env 9 = .own aid 0 n 9 ∧ App eTun 9 (.own aid 0 n 9) (tsN l cn sp) lo2 s'.mem := by
  generalize hl2 : cCode C _ _ _ (.loop _) _ = r
  simp only [lp, loops, codeOf, Try.f3, List.nil_append, List.cons_append, List.append_nil, List.getD_cons_zero, List.getD_cons_succ, Option.getD_some] at hl2
  obtain ⟨e, s', rfl, he, hp⟩ := loop_rule hl2 (fun q s => s.env 0 = a ∧ s.env 6 = .own wid 0 n 1 ∧ s.env 9 = .own aid 0 n 9 ∧ s.env 10 = .own bid 0 n 1 ∧ s.env 19 = .ptr w 0 ∧ s.env 144 = .int .i64 R ∧ ∃ (i : Nat) (long : Int) (ls : List Sh) (t : Nat) (cn : Nat → Nat) (sp : Nat → Int), i + q = R ∧ s.env 145 = .int .i64 i ∧ s.env 21 = .int .i64 long ∧ Rn n wid bid aid w lo2 (l.map wOf) (tsN l cn sp) ls t s.mem ∧ Shs ls t ∧ Fair (l.map wOf) ls t sp long ∧ (0 ≤ long ∧ long ≤ 32767) ∧ ∀ j, cn j ≤ i ∧ 0 ≤ sp j ∧ sp j ≤ i * 32767)
    (fun e s => e = .exit 4 ∧ s.env 0 = a ∧ s.env 9 = .own aid 0 n 9 ∧ ∃ cn sp, (∀ j, cn j ≤ 300) ∧ App eTun 9 (.own aid 0 n 9) (tsN l cn sp) lo2 s.mem) R (by omega) ⟨h0, h6, h9, h10, h19, h144, 0, 0, _, 0, _, _, by omega, h145, h21, H, ⟨by simp; omega, by simp; omega, fun r hr => by
      obtain ⟨x, hx, rfl⟩ := List.mem_map.1 hr
      obtain ⟨c, _, rfl⟩ := List.mem_map.1 hx
      exact sh0_ok (w_range c)⟩, Fair.zero _, by omega, fun j => by simp⟩ (by
      rintro q s ⟨e0, e6, e9, e10, e19, e144, i, long, ls, t, cn, sp, hiq, e145, e21, H, hS, hF, hlong, hcs⟩
      by_cases hx : i < R
      · have hx' : (i : Int) < R := by omega
        have wi : IntKind.i64.wrap ((i : Int) + 1) = ((i + 1 : Nat) : Int) := IntWalk.i64_in _ (by omega)
        have mw := H.mw
        have w0 := H.w0
        have w1 := H.w1
        have lsn : ls.length = n := by
          have := congrArg List.length hF.w
          simpa [hn] using this
        have hla : lenA Try.prog 22 a = some (.int .i64 l.length) := SL.len (P := Try.prog) Try.underlying22 ha
        simp [e0, e6, e9, e10, e19, e21, e144, e145, hx', mw, w0, w1]
        generalize hM : Mem.mk _ _ _ _ = M
        have nM : M.next = s.mem.next + 12 := by rw [← hM]
        have H1 : Rn n wid bid aid w lo2 (l.map wOf) (tsN l cn sp) ls t M := by rw [← hM]; exact H.bump 12
        have gM : M.mode = s.mem.mode := by rw [← hM]
        have hMold : ∀ id, id < s.mem.next → M.cell id = s.mem.cell id ∧ M.mode id = s.mem.mode id ∧ M.siz id = s.mem.siz id := fun id _ => by rw [← hM]; exact ⟨rfl, rfl, rfl⟩
        clear hM
        have hbz : SL eBool (.imm n ((List.replicate n true).flatMap eBool)) (List.replicate ls.length true) := by
          rw [lsn]
          have := sl_imm eBool (List.replicate n true)
          rwa [List.length_replicate] at this
        obtain ⟨l', t', hP, ⟨ht', hpos⟩, g10'⟩ := c10 k (by omega) ls t hS _ hbz
        have hl'n : l'.length = n := hP.len.trans lsn
        have hS' := hP.ok hS
        have hF' := Fair.pass hP hS hF
        rw [lsn, hl'n] at g10'
        have g10 := g10' [.agg [.imm n (ls.flatMap eSh), .int .i64 t], .own bid 0 n 1] M { M with mode := upd M.mode bid .ro } (by simp [H1.fzB 6])
        obtain ⟨F, hFd⟩ : ∃ F, F = upd M.mode bid Md.ro := ⟨_, rfl⟩
        rw [← hFd] at g10
        have hFo : ∀ id, id ≠ bid → F id = M.mode id := fun id h => by rw [hFd]; exact if_neg h
        have hFb : F bid ≠ .dead := by rw [hFd]; simp [upd]
        have hnx := H1.nx
        have nxs := H.nx
        have ht1 : ¬ (t' : Int) < 0 := by omega
        have ht2 : ¬ (l.length : Int) ≤ t' := by omega
        have hix : indexAddrA Try.prog 33 (.own aid 0 n 9) (.int .i64 t') = some (.ptr aid (t' * 9)) := by simp [indexAddrA]; omega
        have hFfr : ∀ id, M.next ≤ id → F id = .dead := fun id h => by rw [hFo id (by omega)]; exact H1.fresh id h
        have f8 : F (s.mem.next + 8) = .dead := by rw [hFo _ (by omega), gM]; exact H.fresh _ (by omega)
        simp [g10, e0, e6, e9, e10, e19, e21, e144, e145, nM, f8, hla, ht1, ht2, hix]
        generalize hM3 : Mem.mk _ _ _ _ = M3
        have n3 : M3.next = s.mem.next + 33 := by rw [← hM3]
        have low3 : ∀ id, id < M.next → id ≠ s.mem.next + 8 → M3.cell id = M.cell id ∧ (id ≠ bid → M3.mode id = M.mode id) ∧ M3.siz id = M.siz id := fun id h h1 => by
          rw [← hM3]
          exact ⟨by funext o; simp [h1], fun hne => by rw [← hFo id hne]; simp [upd, h1], by simp [upd, h1]⟩
        have b3 : M3.mode bid ≠ .dead := by
          have : ¬ bid = s.mem.next + 8 := by omega
          rw [← hM3]; simp [upd, this]; exact hFb
        have m38 : M3.mode (s.mem.next + 8) = .rw := by rw [← hM3]; simp [upd]
        have c380 : M3.cell (s.mem.next + 8) 0 = some (.imm n (l'.flatMap eSh)) := by rw [← hM3]; simp
        have c381 : M3.cell (s.mem.next + 8) 1 = some (.int .i64 t') := by rw [← hM3]; simp
        have fr3 : Fresh M3 := fun id hid => by
          have : ¬ id = s.mem.next + 8 := by omega
          rw [← hM3]; simp [upd, this]; exact hFfr id (by omega)
        clear hM3
        have H0 : Rn n wid bid aid w lo2 (l.map wOf) (tsN l cn sp) ls t { cell := s.mem.cell, mode := s.mem.mode, siz := s.mem.siz, next := s.mem.next + 0 } := H.bump 0
        have H3 : Rn n wid bid aid w lo2 (l.map wOf) (tsN l cn sp) ls t M3 := by
          have hMs : ∀ id, id < s.mem.next → M.cell id = s.mem.cell id ∧ M.mode id = s.mem.mode id ∧ M.siz id = s.mem.siz id := hMold
          refine Rn.mono H d1 d3 d5 (by omega) (fun id h => ?_) (fun id h h1 => ?_) b3 (fun id h => ?_) fr3
          · rw [(low3 id (by omega) (by omega)).1]; exact (hMs id h).1
          · rw [(low3 id (by omega) (by omega)).2.1 h1]; exact (hMs id h).2.1
          · rw [(low3 id (by omega) (by omega)).2.2]; exact (hMs id h).2.2
        have hcs' := hcs t'
        have hbr := b_range (l.getD t' cor0)
        obtain ⟨v, hv⟩ : ∃ v, v = vOf (l.getD t' cor0) := ⟨_, rfl⟩
        obtain ⟨bb, hbb⟩ : ∃ bb, bb = bOf (l.getD t' cor0) := ⟨_, rfl⟩
        rw [← hbb] at hbr
        have htl : t' < (tsN l cn sp).length := by rw [tsN_len]; omega
        have h32 : (i : Int) * 32767 ≤ 300 * 32767 := Int.mul_le_mul_of_nonneg_right (by omega) (by omega)
        obtain ⟨M4, g11, hA4, fr4, n4, low4⟩ := c11 k (by omega) (v := v) (b := bb) hbr (cn t') (by omega) (sp t') (by omega) H3.hA htl (by rw [tsN_get, hv, hbb]) H3.fresh
        have hair := tot_most (pickN v bb (cn t')) (pickN_lt v bb (cn t')) hbr
        obtain ⟨air, hair'⟩ : ∃ air, air = totF (pickN v bb (cn t')) bb := ⟨_, rfl⟩
        rw [← hair'] at g11 hA4 hair
        rw [hv, hbb, tsN_set l cn sp (by omega)] at hA4
        obtain ⟨x1, x2, x3⟩ := low4 (s.mem.next + 8) (by omega) (by omega)
        have z1 : M4.mode (s.mem.next + 8) = .rw := x2.trans m38
        have z2 : M4.cell (s.mem.next + 8) 0 = some (.imm n (l'.flatMap eSh)) := by rw [x1]; exact c380
        have z3 : M4.cell (s.mem.next + 8) 1 = some (.int .i64 t') := by rw [x1]; exact c381
        have g12' := fun m => c12 k (by omega) l' t' hS' t' ht' air hair hpos [.agg [.imm n (l'.flatMap eSh), .int .i64 t'], .int .i64 t', .int .i64 air] m m (by simp [hl'n])
        rw [hl'n] at g12'
        obtain ⟨w1', w2', w3'⟩ := low4 w (by omega) d6
        have mw4 : M4.mode w = .rw := by rw [w2']; exact H3.mw
        have mc4 : M4.cell w 0 = some (.imm n (ls.flatMap eSh)) := by rw [w1']; exact H3.w0
        have md4 : M4.cell w 1 = some (.int .i64 t) := by rw [w1']; exact H3.w1
        have f4 : ∀ q, M4.mode (M4.next + q) = .dead := fun q => fr4 _ (by omega)
        have q1 : ∀ q, ¬ M4.next + q = w := fun q => by omega
        have q2 : ∀ q, ¬ w = M4.next + q := fun q => by omega
        simp [g11, g12', e0, e6, e9, e10, e19, e21, e144, e145, z1, z2, z3, f4, mw4, mc4, md4, q1, q2]
        have hmax : (if long < air then air else long) = max long air := by rw [Int.max_def]; split <;> split <;> omega
        have hla2 : lenA Try.prog 33 (.own aid 0 n 9) = some (.int .i64 n) := by simp [lenA]
        simp [hla2, hmax]
        generalize hl3 : cCode C _ _ _ (.loop _) _ = r3
        generalize hst : St.mk _ _ = s1 at hl3
        obtain ⟨cn', hcn'⟩ : ∃ cn' : Nat → Nat, cn' = fun j => if j = t' then cn t' + 1 else cn j := ⟨_, rfl⟩
        obtain ⟨sp', hsp'⟩ : ∃ sp' : Nat → Int, sp' = upd sp t' (sp t' + air) := ⟨_, rfl⟩
        obtain ⟨l2, hl2'⟩ : ∃ l2, l2 = l'.set t' (pay l'[t'] air) := ⟨_, rfl⟩
        have hS2 : Shs l2 t' := by rw [hl2']; exact Shs.pay hS' ht' hpos hair
        have hF2 : Fair (l.map wOf) l2 t' sp' (max long air) := by rw [hl2', hsp']; exact Fair.pay hF' ht' hpos
        rw [← hcn', ← hsp'] at hA4
        have hcs2 : ∀ j, cn' j ≤ i + 1 ∧ 0 ≤ sp' j ∧ sp' j ≤ ((i + 1 : Nat) : Int) * 32767 := fun j => by
          have h1 := hcs j
          have h2 : ((i + 1 : Nat) : Int) * 32767 = (i : Int) * 32767 + 32767 := by omega
          rw [hcn', hsp', h2]
          simp only [upd]
          by_cases hj : j = t'
          · subst hj
            simp only [if_pos]
            omega
          · simp only [if_neg hj]
            omega
        have hl2n : l2.length = n := by rw [hl2', List.length_set]; exact hl'n
        have HR : Rn n wid bid aid w lo2 (l.map wOf) (tsN l cn' sp') l2 t' s1.mem := by
          rw [← hst, ← hl2']
          have lowm : ∀ id, id < M4.next → id ≠ aid → M4.cell id = M4.cell id := fun _ _ _ => rfl
          obtain ⟨a1, a2, a3⟩ := low4 wid (by omega) d2
          obtain ⟨a4, a5, a6⟩ := low4 bid (by omega) d3
          have i1 : ¬ wid = M4.next + 7 := by omega
          have i2 : ¬ bid = M4.next + 7 := by omega
          have i3 : ¬ aid = M4.next + 7 := by omega
          have i4 : ¬ w = M4.next + 7 := by omega
          have j1 : ¬ wid = w := fun e => d4 e.symm
          have j2 : ¬ bid = w := fun e => d5 e.symm
          have j3 : ¬ aid = w := fun e => d6 e.symm
          refine ⟨by simp only []; omega, ?_, fun o ho => ?_, ?_, fun o ho => ?_, App.same hA4 (by simp) (fun id k e _ _ => ?_), ?_, ?_, ?_, fun id hid => ?_⟩
          · simp [upd, i1]; rw [a2]; exact H3.mW
          · simp only [i1, j1, false_and, if_false]; rw [a1]; exact H3.cW o ho
          · simp [upd, i2]; rw [a5]; exact H3.mB
          · simp only [i2, j2, false_and, if_false]; rw [a4]; exact H3.cB o ho
          · injection e with e
            subst e
            exact ⟨by funext o; simp [i3, j3], by simp [upd, i3], by simp [upd, i3]⟩
          · simp [upd, i4]; exact mw4
          · simp
          · simp
          · have : ¬ id = M4.next + 7 := by simp only [] at hid; omega
            simp only [] at hid
            simp only [upd, if_neg this]
            exact fr4 id (by omega)
        have hC : Cmp n (l.map wOf) (tsN l cn' sp') (max long air) := by
          have hw2 : ∀ j (h : j < n), (l.map wOf)[j]'(by simp; omega) = (l2[j]'(by omega)).w := fun j h => by
            have := hF2.w
            simp only [← this, List.getElem_map]
          refine ⟨by simp [hn], by rw [tsN_len, hn], fun j h => by rw [List.getElem_map]; exact w_range _, fun j h => by rw [tsN_get]; show 0 ≤ sp' j ∧ sp' j ≤ _; have := hcs2 j; omega, by omega, fun j x hj hx => ?_⟩
          rw [tsN_get, tsN_get, hw2 j hj, hw2 x hx]
          exact Fair.law hS2 hF2 (by omega) (by omega) (by omega)
        obtain ⟨s2, p1, p2, p3, p4, p5, p6, p7, p8, p9, p10⟩ := lpj_eq (wid := wid) (bid := bid) (aid := aid) (w := w) (lo2 := lo2) (l := l2) (t := t') k (by omega) (by omega) hC a (.own bid 0 n 1) (.int .i64 R) (.int .i64 i) s1 (by simp [← hst, e0]) (by simp [← hst, e6]) (by simp [← hst, e9]) (by simp [← hst, e10]) (by simp [← hst, e19]) (by simp [← hst]) (by simp [← hst, e144]) (by simp [← hst, e145]) (by simp [← hst]) (by simp [← hst]) HR
        have := hl3.symm.trans p1
        subst this
        simp [p2, p3, p4, p5, p6, p7, p8, p9, wi]
        refine ⟨_, _, ⟨rfl, rfl⟩, ?_⟩
        simp [p2, p3, p4, p5, p6, p7, p8]
        exact ⟨by omega, i + 1, by omega, by simp, l2, t', cn', sp', p10.bump 2, hS2, hF2, by omega, hcs2⟩
      · simp [e0, e6, e9, e10, e19, e21, e144, e145, hx]
        exact ⟨cn, fun j => by have := (hcs j).1; omega, sp, (H.bump 1).hA⟩)
  obtain ⟨rfl, e0, e9, cn, sp, h1, h2⟩ := hp
  exact ⟨s', cn, sp, rfl, h1, e0, e9, h2⟩
end Go.Proofs.Ytmfdjipijifabab
end
section
/- The law's function. -/
set_option linter.unusedVariables false
set_option linter.unusedSimpArgs false
set_option linter.unnecessarySimpa false
set_option maxRecDepth 100000
namespace Go.Proofs.Ytmfdjipijifabab
open Go.Ab

set_option maxHeartbeats 8000000 in
theorem lp3_eq (k : Nat) (hk : 100 ≤ k) (l : List Cor) (hl : l.length ≤ 6) (n : Nat) (hn : n = l.length) {aid lo2 : Nat} (cn : Nat → Nat) (sp : Nat → Int) (hcn : ∀ j, cn j ≤ 300) (s : St)
    (h9 : s.env 9 = .own aid 0 n 9) (h237 : s.env 237 = .own aid 0 n 9) (h238 : s.env 238 = .int .i64 n) (h239 : s.env 239 = .int .i64 0)
    (H : App eTun 9 (.own aid 0 n 9) (tsN l cn sp) lo2 s.mem) :
    ∃ s', cCode C (cCall C T k) (T 3) k (.loop (lp 3)) s = some (.exit 10, s') := by
  generalize hl2 : cCode C _ _ _ (.loop _) _ = r
  simp only [lp, loops, codeOf, Try.f3, List.nil_append, List.cons_append, List.append_nil, List.getD_cons_zero, List.getD_cons_succ, Option.getD_some] at hl2
  obtain ⟨e, s', rfl, he, hp⟩ := loop_rule hl2 (fun q s => s.env 9 = .own aid 0 n 9 ∧ s.env 237 = .own aid 0 n 9 ∧ s.env 238 = .int .i64 n ∧ App eTun 9 (.own aid 0 n 9) (tsN l cn sp) lo2 s.mem ∧ ∃ x, x + q = n ∧ s.env 239 = .int .i64 (x : Nat))
    (fun e s => e = .exit 10) n (by omega) ⟨h9, h237, h238, H, 0, by omega, h239⟩ (by
      rintro q s ⟨e9, e237, e238, H, x, hxq, e239⟩
      by_cases hx : x < n
      · have hx' : (x : Int) < n := by omega
        have wi : IntKind.i64.wrap ((x : Int) + 1) = ((x + 1 : Nat) : Int) := IntWalk.i64_in _ (by omega)
        have hxl : x < (tsN l cn sp).length := by rw [tsN_len]; omega
        obtain ⟨_, he1, he2, he3, he4, he5⟩ := App.get eTun_len H (i := x) hxl
        injection he1 with h; subst h
        rw [tsN_get] at he5
        have y1 : s.mem.cell aid (x * 9 + 7) = some (.int .i64 (dueN (vOf (l.getD x cor0)) (cn x) : Nat)) := he5 7 (by omega)
        have ix : indexAddrA Try.prog 33 (.own aid 0 n 9) (.int .i64 x) = some (.ptr aid (x * 9)) := by simp [indexAddrA, hx]
        have g13 := fun q => c13 k (by omega) (cn x) (by have := hcn x; omega) (sp x) (H.grow (Grow.bump s.mem q)) hxl (tsN_get l cn sp hxl)
        simp [e9, e237, e238, e239, hx', ix, he4, y1, g13, wi, callFoot]
        exact ⟨by omega, H.grow (Grow.bump _ _), x + 1, by omega, by simp⟩
      · simp [e9, e237, e238, e239, hx])
  exact ⟨s', by rw [hp]⟩

theorem zeros_one (x : AVal) (n : Nat) : zeros [x] (n * 1) = List.replicate n x := by
  apply List.ext_getElem?
  intro j
  unfold zeros
  by_cases h : j < n
  · simp [h, Nat.mod_one]
  · simp [h]
theorem mk34 (n : Nat) (hn : n ≤ 6) (m : Mem) (new : Nat) (hd : m.mode new = .dead) : makeSliceA Try.prog 34 (.int .i64 n) (.int .i64 n) m new = some (.own new 0 n 1, newBlk m new (List.replicate n (.bool false))) := by
  obtain ⟨inf, i1, i2, i3⟩ := inf4
  unfold makeSliceA
  simp only [Try.underlying34, i1, i2, i3, zc4, hd]
  rw [if_pos ⟨by omega, by omega, by omega, by omega, rfl, trivial⟩]
  simp only [Int.toNat_natCast, zeros_one]

set_option maxHeartbeats 8000000 in
theorem c3 (k : Nat) (hk : 2600200 ≤ k) (a : AVal) (l : List Cor) (ha : SL eCor a l) (mn : Int) (args : List AVal) (m m1 : Mem) (hz : freezeL (freezeV 8) args m = some ([a, .int .i64 mn], m1)) :
    cCall C T k 3 args m = some (.bool true, m1) := by
  refine pure_call kd3 2600199 hk hz fun k hk => ?_
  rw [body3]
  have hla : lenA Try.prog 22 a = some (.int .i64 l.length) := SL.len (P := Try.prog) Try.underlying22 ha
  by_cases h1 : (l.length : Int) < 1
  · simp [codeOf, Try.f3, hla, h1]
  by_cases h6 : (6 : Int) < l.length
  · simp [codeOf, Try.f3, hla, h1, h6]
  obtain ⟨n, hn⟩ : ∃ n, n = l.length := ⟨_, rfl⟩
  simp [codeOf, Try.f3, hla, h1, h6, buildSliceA, zeros, List.range, List.range.loop]
  generalize hl3 : cCode C _ _ _ (.loop _) _ = r3
  generalize hst : St.mk _ _ = s1 at hl3
  have hS0 : Sc 12 9 [rad0] [] (.own 10 0 1 4) .nils s1.mem := by
    have hne : ∀ id, id ≠ 10 → id ≠ 12 → s1.mem.mode id = .dead := fun id h h2 => by
      rw [← hst]
      simp only [upd, if_neg h, if_neg h2]
      exact m0_dead id
    refine ⟨by rw [← hst]; simp, by rw [← hst]; simp, by rw [← hst]; simp, .inr ⟨10, by simp, by omega, by rw [← hst]; simp, by rw [← hst]; simp, by rw [← hst]; simp, fun o ho => by rw [← hst]; simp [rad0, eRad]⟩, .inl ⟨rfl, rfl⟩, ⟨by omega, by rw [← hst]; simp⟩, fun id hid => hne id (by rw [← hst] at hid; simp at hid; omega) (by rw [← hst] at hid; simp at hid; omega), fun n e => by injection e; omega, fun n e => (by cases e), fun id n n' e e' => (by cases e')⟩
  obtain ⟨s2, p1, p2, p3, p4, S, W, p5, p6⟩ := lp0 k (by omega) a (.int .i64 mn) l ha (by omega) 12 9 s1 (by simp [← hst]) (by simp [← hst]) (by simp [← hst]) (by simp [← hst]) (by simp [← hst]) (by simp [← hst]) (by simp [← hst]) hS0
  have := hl3.symm.trans p1
  subst this
  have hnx2 := p6.fresh
  have hd2 : ∀ q, s2.mem.mode (s2.mem.next + q) = .dead := fun q => hnx2 _ (by omega)
  have hmk := mk34 l.length (by omega) { cell := s2.mem.cell, mode := s2.mem.mode, siz := s2.mem.siz, next := s2.mem.next + 5 } (s2.mem.next + 3) (hd2 3)
  simp [p2, p3, p4, p5, hla, hmk]
  generalize hl4 : cCode C _ _ _ (.loop _) _ = r4
  generalize hst4 : St.mk _ _ = s3 at hl4
  obtain ⟨sid, sS, sS1, sS2, _, _⟩ := App.get eRad_len p6.hS (i := 0) (by rw [scene_len]; omega)
  have hwl : (l.map wOf).length = l.length := by simp
  obtain ⟨wid, sW, sW1, sW2, sW3, _⟩ := App.get eInt_len p6.hW (i := 0) (by rw [hwl]; omega)
  rw [hwl] at sW
  have pn := p6.pn
  have inS : ∀ id n, S = .own id 0 n 4 → id < s2.mem.next := fun id n e => (app_own p6.hS e).2
  have inW : ∀ id n, W = .own id 0 n 1 → id < s2.mem.next := fun id n e => (app_own p6.hW e).2
  have low3 : ∀ id, id < s2.mem.next → s3.mem.cell id = s2.mem.cell id ∧ s3.mem.mode id = s2.mem.mode id ∧ s3.mem.siz id = s2.mem.siz id := fun id h => by
    have h1 : ¬ id = s2.mem.next + 3 := by omega
    rw [← hst4]
    exact ⟨by funext o; simp [newBlk, h1], by simp [newBlk, upd, h1], by simp [newBlk, upd, h1]⟩
  have n3 : s2.mem.next + 5 ≤ s3.mem.next := by rw [← hst4]; simp [newBlk]
  have he : ∀ q : Nat, (List.replicate q false).flatMap eBool = List.replicate q (.bool false) := fun q => by
    induction q with
    | zero => rfl
    | succ q ih => rw [List.replicate_succ, List.flatMap_cons, ih]; rfl
  have hCs : Cs 12 9 s2.mem.next (scene l) (l.map wOf) S W (.own (s2.mem.next + 3) 0 l.length 1) .nils (List.replicate l.length false) [] s2.mem s3.mem := by
    refine ⟨(low3 12 pn.2).2.1.trans p6.mp, by rw [(low3 12 pn.2).1]; exact p6.c0, by rw [(low3 12 pn.2).1]; exact p6.c1, ?_, ?_, ?_, .inl ⟨rfl, rfl⟩, by omega, ?_, fun id n n' _ e => (by cases e)⟩
    · exact Kept.same (Kept.refl p6.hS) (fun id n e => (low3 id (inS _ _ e)).1) (fun id n e h => by rw [(low3 id (inS _ _ e)).2.1]; exact h)
    · exact App.same p6.hW (by omega) (fun id n e _ _ => low3 id (inW _ _ e))
    · refine .inr ⟨s2.mem.next + 3, by simp, by omega, by omega, by rw [← hst4]; simp [newBlk], by rw [← hst4]; simp [newBlk], fun o ho => by rw [← hst4]; simp [newBlk, he]⟩
    · intro id hid
      have h1 : ¬ id = s2.mem.next + 3 := by omega
      rw [← hst4]
      simp [newBlk, upd, h1]
      exact hnx2 id (by omega)
  obtain ⟨s4, q1, q2, q3, q4, q5, A, q6, q7⟩ := lp1 k (by omega) a (.int .i64 mn) l ha (by omega) 12 9 s2.mem.next S W (.own (s2.mem.next + 3) 0 l.length 1) s2.mem p6 (Nat.le_refl _) s3 (by simp [← hst4, p2]) (by simp [← hst4, p3]) (by simp [← hst4, p4]) (by simp [← hst4, p5]) (by simp [← hst4]) (by simp [← hst4]) (by simp [← hst4]) (by simp [← hst4]) (by simp [← hst4]) hCs
  have := hl4.symm.trans q1
  subst this
  have hsW := App.fzd 6 q7.hW eInt_len (fun x _ b hb m => by
    simp [eInt] at hb
    rw [hb]
    rfl) (by rw [hwl]; omega)
  obtain ⟨F, hF⟩ : ∃ F, F = fzMd W s4.mem.mode := ⟨_, rfl⟩
  have hFW : F = upd s4.mem.mode wid .ro := by rw [hF, sW]; rfl
  have hFo : ∀ id, id ≠ wid → F id = s4.mem.mode id := fun id h => by rw [hFW]; exact if_neg h
  have hFw : F wid ≠ .dead := by rw [hFW]; simp [upd]
  have hsl := sl_imm eInt (l.map wOf)
  have g9' := fun q => c9 k (by omega) _ (l.map wOf) hsl (by rw [hwl]; omega) (fun x hx => by
    obtain ⟨c, _, rfl⟩ := List.mem_map.1 hx
    exact w_range c) [W] { cell := s4.mem.cell, mode := s4.mem.mode, siz := s4.mem.siz, next := q } { cell := s4.mem.cell, mode := F, siz := s4.mem.siz, next := q } (by
      have := hsW { cell := s4.mem.cell, mode := s4.mem.mode, siz := s4.mem.siz, next := q } (Kept.same (Kept.refl q7.hW) (fun _ _ _ => rfl) (fun _ _ _ h => h))
      simp only [freezeL, this, hF])
  rw [hwl] at g9'
  have hnx4 := q7.nx
  have fr4 := q7.fresh
  have f5 : F (s4.mem.next + 5) = .dead := by rw [hFo _ (by omega)]; exact fr4 _ (by omega)
  have g4 := fun x n hn hn' => c4 k (by omega) x n hn hn'
  simp [q2, q3, q4, q5, q6, g9', f5, g4]
  generalize hl5 : cCode C _ _ _ (.loop _) _ = r5
  generalize hst5 : St.mk _ _ = s5 at hl5
  obtain ⟨aid, sA, sA1, sA2, sA3, _⟩ := App.get eTun_len q7.hA (i := 0) (by simp; omega)
  have htl : (l.map tOf).length = l.length := by simp
  rw [htl] at sA
  obtain ⟨bid, sB, sB1, sB2, sB3, _⟩ := App.get eBool_len q7.hB (i := 0) (by simp; omega)
  injection sB with sB
  have dab : s2.mem.next + 3 ≠ aid := fun e => q7.ne (s2.mem.next + 3) _ l.length rfl (e ▸ sA)
  have HR : Rn l.length wid (s2.mem.next + 3) aid (s4.mem.next + 5) s2.mem.next (l.map wOf) (tsN l (fun _ => 0) (fun _ => 0)) ((l.map wOf).map sh0) 0 s5.mem := by
    rw [tsN_zero]
    have low5 : ∀ id, id < s4.mem.next → s5.mem.cell id = s4.mem.cell id ∧ (id ≠ wid → s5.mem.mode id = s4.mem.mode id) ∧ s5.mem.siz id = s4.mem.siz id := fun id h => by
      have h1 : ¬ id = s4.mem.next + 5 := by omega
      rw [← hst5]
      exact ⟨by funext o; simp [h1], fun hne => by rw [← hFo id hne]; simp [upd, h1], by simp [upd, h1]⟩
    have n5 : s4.mem.next + 8 ≤ s5.mem.next := by rw [← hst5]; simp
    have hwn : ∀ o (h : o < (l.map wOf).length), s4.mem.cell wid o = some (.int .i64 (l.map wOf)[o]) := fun o h => by
      obtain ⟨id, e, _, _, _, he5⟩ := App.get eInt_len q7.hW h
      have : id = wid := by rw [sW] at e; injection e with e; exact e.symm
      subst this
      have := he5 0 (by omega)
      simpa [eInt] using this
    have hbn : ∀ o, o < l.length → s4.mem.cell (s2.mem.next + 3) o = some (.bool true) := fun o h => by
      obtain ⟨id, e, _, _, _, he5⟩ := App.get eBool_len q7.hB (i := o) (by simpa using h)
      injection e with e
      subst e
      have := he5 0 (by omega)
      simpa [eBool] using this
    refine ⟨⟨by omega, by omega, by omega, by omega⟩, ?_, fun o ho => by rw [(low5 wid (by omega)).1]; exact hwn o ho, ?_, fun o ho => by rw [(low5 _ (by omega)).1]; exact hbn o ho, ?_, by rw [← hst5]; simp, by rw [← hst5]; simp, by rw [← hst5]; simp, fun id hid => ?_⟩
    · have h1 : ¬ wid = s4.mem.next + 5 := by omega
      rw [← hst5]; simp [upd, h1]; exact hFw
    · rw [(low5 (s2.mem.next + 3) (by omega)).2.1 (by omega), sB, sB3]; simp
    · have := App.same (m' := s5.mem) q7.hA (by omega) (fun id n e _ h => by
        have h2 := (app_own q7.hA e).2
        obtain ⟨z1, z2, z3⟩ := low5 id h2
        exact ⟨z1, z2 (by omega), z3⟩)
      rwa [sA] at this
    · have h1 : ¬ id = s4.mem.next + 5 := by omega
      rw [← hst5]; simp [upd, h1]
      rw [hFo id (by omega)]
      exact fr4 id (by omega)
  obtain ⟨R, hR⟩ : ∃ R : Nat, (R : Int) = mn % 301 := ⟨(mn % 301).toNat, by omega⟩
  obtain ⟨s6, cn, sp, r1, r2, r3, r4, r5⟩ := lp2_eq (wid := wid) (bid := s2.mem.next + 3) (aid := aid) (w := s4.mem.next + 5) (lo2 := s2.mem.next) k (by omega) l ⟨by omega, by omega⟩ l.length rfl a ha R (by omega) (by omega) (by omega) dab (by omega) (by omega) (by omega) sA1 s5 (by simp [← hst5, q2]) (by simp [← hst5, q4, sW]) (by simp [← hst5, q6, sA]) (by simp [← hst5, q5]) (by simp [← hst5]) (by simp [← hst5]) (by simp [← hst5, hR]) (by simp [← hst5]) HR
  have := hl5.symm.trans r1
  subst this
  have hla3 : lenA Try.prog 33 (.own aid 0 l.length 9) = some (.int .i64 l.length) := by simp [lenA]
  simp [r3, r4, hla3]
  generalize hl6 : cCode C _ _ _ (.loop _) _ = r6
  generalize hst6 : St.mk _ _ = s7 at hl6
  obtain ⟨s8, t1⟩ := lp3_eq (aid := aid) (lo2 := s2.mem.next) k (by omega) l (by omega) l.length rfl cn sp r2 s7 (by simp [← hst6, r4]) (by simp [← hst6]) (by simp [← hst6]) (by simp [← hst6]) (by rw [← hst6]; exact r5.grow (Grow.bump _ _))
  have := hl6.symm.trans t1
  subst this
  simp
end Go.Proofs.Ytmfdjipijifabab
end

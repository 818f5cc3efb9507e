/- append by a call's own slice, near the model's bound: one cell an element; lists whose bytes stay below 150000000000000. -/
import Derived.Test.YtoandhhkmkgmaaaOwn2
import Derived.ArgAppend
import Derived.Maps.AppendAt
import Derived.Deep.RegionLaw
import Derived.OwnWalkIn
namespace Go.Proofs.Ytoandhhkmkgmaaa
open Go.RowKit

/-- Growth asks for a quarter more at most, and a little. -/
theorem cap_quarter {need old : Nat} (h : old < need) : Builtin.nextslicecap need old ≤ need + need / 4 + 600 := by
  unfold Builtin.nextslicecap
  split
  · omega
  · split
    · omega
    · rw [growBy_four]
      repeat' split
      all_goals omega
/-- So it fits. -/
theorem fits_wide {need old bytes : Nat} (h : old < need) (hb : need * bytes ≤ 150000000000000) (h64 : bytes ≤ 64) : Builtin.nextslicecap need old * bytes ≤ 281474976710656 := by
  have h1 : Builtin.nextslicecap need old * bytes ≤ (need + need / 4 + 600) * bytes := Nat.mul_le_mul_right _ (cap_quarter h)
  have h2 : (need + need / 4 + 600) * bytes = need * bytes + need / 4 * bytes + 600 * bytes := by rw [Nat.add_mul, Nat.add_mul]
  have h3 : need / 4 * bytes ≤ need * bytes := Nat.mul_le_mul_right _ (Nat.div_le_self _ _)
  have h4 : need / 4 * bytes * 4 ≤ need * bytes := by
    have := Nat.div_mul_le_self need 4
    calc need / 4 * bytes * 4 = need / 4 * 4 * bytes := by rw [Nat.mul_assoc, Nat.mul_comm bytes 4, ← Nat.mul_assoc]
      _ ≤ need * bytes := Nat.mul_le_mul_right _ this
  omega
section
variable {P : Program} {t e : TypeId} {z : Value} {bytes : Nat}
/-- The row that growth leaves. -/
theorem row_wide (w : World) (hzs : z.cells.size = 1) {B old N : Nat} {ys : List Value} (hy : ys.length = N) (hN : N ≤ maxLen) (hB : B ≤ w.heap.size) :
    (w.drew.alloc (.cells (ys.toArray ++ Builtin.zeroCells z.cells (grownCap w N old e - N)) e)).ownsRow B e 1 (.slice (some ⟨w.heap.size, 0, none⟩) N (grownCap w N old e)) N ys := by
  have hge := grownCap_ge w N old e
  refine ⟨by omega, .inr ⟨w.heap.size, _, _, rfl, hB, heap_alloc_new w.drew _, hge, grownCap_le_maxLen w N old e hN, ?_, ?_⟩⟩
  · rw [Array.size_append, size_zeroCells, hzs, List.size_toArray]
    omega
  · rw [Array.toList_append, Nat.mul_one, ← hy]
    exact List.take_left
theorem grown_wide (w : World) (o : Obj) (row : Option Nat) : w.grownBy (w.drew.alloc o) row := ⟨rfl, rfl, rfl, by simp, fun k hk _ => heap_alloc_old w.drew _ hk⟩
/-- 'append(s, x...)', s with too little room. -/
theorem run_grows_wide (w : World) (T : ElT P t e z bytes) (h64 : bytes ≤ 64) (h1b : 1 ≤ bytes) (ty : TypeId) (b : Addr) (n cap : Nat) (olds : List Value) (hlo : olds.length = n) (holds : ∀ (j : Nat) (u : Value), olds[j]? = some u → w.cell? (b.add j) = some u)
    (a : Addr) (m c : Nat) (news : List Value) (hl : news.length = m) (hnews : ∀ (j : Nat) (u : Value), news[j]? = some u → w.cell? (a.add j) = some u) (hg : cap < n + m) (hb : (n + m) * bytes ≤ 150000000000000) {B : Nat} (hB : B ≤ w.heap.size) :
    ∃ c' w', (Builtin.append_ #[t, t] ty #[.slice (some b) n cap, .slice (some a) m c]).run P w = .ok (.slice (some ⟨w.heap.size, 0, none⟩) (n + m) c') w' ∧
      w'.ownsRow B e 1 (.slice (some ⟨w.heap.size, 0, none⟩) (n + m) c') (n + m) (olds ++ news) ∧ ∀ row, w.grownBy w' row := by
  obtain ⟨ht, i, hi, hz, hs1, hbb, hzs⟩ := T
  have hN : n + m ≤ 150000000000000 := Nat.le_trans (Nat.le_mul_of_pos_right _ h1b) hb
  have hr := run_append_grow (P := P) w t ty e i z ht hi hz b n cap olds (by rw [hs1]; omega) holds a m c news (by rw [hs1]; omega) hnews hg (by omega) (by rw [hbb]; exact fits_wide hg hb h64)
  have hrow := row_wide (z := z) (e := e) w hzs (B := B) (old := cap) (N := n + m) (ys := olds ++ news) (by rw [List.length_append]; omega) (by unfold maxLen; omega) hB
  refine ⟨_, _, hr, ?_, fun row => grown_wide w _ row⟩
  simpa using hrow
/-- 'append(out, x...)', out the call's own. -/
theorem run_own_wide (w : World) (T : ElT P t e z bytes) (h64 : bytes ≤ 64) (h1b : 1 ≤ bytes) (ty : TypeId) (B : Nat) (v : Value) (n : Nat) (xs : List Value) (hown : w.ownsRow B e 1 v n xs)
    (a : Addr) (m c : Nat) (news : List Value) (hl : news.length = m) (hnews : ∀ (j : Nat) (u : Value), news[j]? = some u → w.cell? (a.add j) = some u) (h1 : ∀ u ∈ news, u.oneCell' = true) (hb : (n + m) * bytes ≤ 150000000000000) (hB : B ≤ w.heap.size) :
    ∃ v' w', (Builtin.append_ #[t, t] ty #[v, .slice (some a) m c]).run P w = .ok v' w' ∧ w'.ownsRow B e 1 v' (n + m) (xs ++ news) ∧ w.grownBy w' v.ownBlock ∧
      (v' = .slice none 0 0 ↔ v = .slice none 0 0 ∧ m = 0) ∧ (v'.ownBlock = v.ownBlock ∨ v'.ownBlock = some w.heap.size) := by
  by_cases hsm : (n + m) * bytes ≤ 140737488355328
  · obtain ⟨ht, i, hi, hz, hs1, hbb, hzs⟩ := T
    have hN : n + m ≤ 150000000000000 := Nat.le_trans (Nat.le_mul_of_pos_right _ h1b) hb
    exact run_append_own_at (P := P) w B t ty e i z 1 bytes ht hi hz hs1 hbb hzs (by decide) v n xs hown a m c news (by omega) hnews h1 (by unfold maxLen; omega) hsm hB
  · have hpos : 0 < n + m := by
      rcases Nat.eq_zero_or_pos (n + m) with h | h
      · rw [h] at hsm; omega
      · exact h
    rcases hown.2 with ⟨rfl, rfl⟩ | ⟨g, cap, cur, rfl, hbg, hg, hnc, hcm, hcs, htake⟩
    · have hx : xs = [] := List.eq_nil_of_length_eq_zero (by simpa using hown.1)
      subst hx
      obtain ⟨ht, i, hi, hz, hs1, hbb, hzs⟩ := T
      have hN : 0 + m ≤ 150000000000000 := Nat.le_trans (Nat.le_mul_of_pos_right _ h1b) hb
      have hr := run_append_nil (P := P) w t ty e i z ht hi hz a m c news (by rw [hs1]; omega) hnews (by omega) (by omega) (by rw [hbb]; rw [Nat.zero_add] at hb; omega)
      have hrow := row_wide (z := z) (e := e) w hzs (B := B) (old := 0) (N := m) (ys := news) hl (by unfold maxLen; omega) hB
      refine ⟨_, _, hr, by simpa using hrow, grown_wide w _ _, ?_, .inr rfl⟩
      simp
      omega
    · by_cases hroom : n + m ≤ cap
      · obtain ⟨ht, i, hi, hz, hs1, hbb, hzs⟩ := T
        obtain ⟨w', hr, h2, h3⟩ := run_append_fits (P := P) w B t ty e i 1 ht hi hs1 g n cap xs hown a m c news (by omega) hnews h1 hroom
        exact ⟨_, w', hr, h2, h3, by simp, .inl rfl⟩
      · have hlo := hown.1
        obtain ⟨c', w', hr, h2, h3⟩ := run_grows_wide w T h64 h1b ty ⟨g, 0, none⟩ n cap xs (by omega) (hown.cells (g := g) rfl) a m c news hl hnews (by omega) hb hB
        exact ⟨_, w', hr, h2, h3 _, by simp, .inr rfl⟩
variable {ops : Array Oper} {rest : List Oper} {o : Oper} {a : Act} {Q : Exit → Act → World → Prop}
/-- As a step of the walk's list. -/
theorem wpList_own_wide (T : ElT P t e z bytes) (h64 : bytes ≤ 64) (h1b : 1 ≤ bytes) (w : World) (hgd : o.guard = none) (s x : Operand)
    (ho : o.op = .call { callee := .builtin .append, args := #[s, x], argTypes := #[t, t] }) (B : Nat) (v : Value) (n : Nat) (xs : List Value) (hs : a.eval s = v) (hown : w.ownsRow B e 1 v n xs)
    (ad : Addr) (m c : Nat) (news : List Value) (hx : a.eval x = .slice (some ad) m c) (hl : news.length = m) (hnews : ∀ (j : Nat) (u : Value), news[j]? = some u → w.cell? (ad.add j) = some u) (h1 : ∀ u ∈ news, u.oneCell' = true) (hb : (n + m) * bytes ≤ 150000000000000) (hB : B ≤ w.heap.size)
    (h : ∀ v' w', w'.ownsRow B e 1 v' (n + m) (xs ++ news) → w.grownBy w' v.ownBlock → (v' = .slice none 0 0 ↔ v = .slice none 0 0 ∧ m = 0) → (v'.ownBlock = v.ownBlock ∨ v'.ownBlock = some w.heap.size) → wpList P ops Q rest (a.put o.dst v') w') :
    wpList P ops Q (o :: rest) a w := by
  refine wpList_plain hgd fun K hK => ?_
  obtain ⟨v', w', hr, h2, h3, h4, h5⟩ := run_own_wide w T h64 h1b o.type B v n xs hown ad m c news hl hnews h1 hb hB
  unfold Oper.wp
  simp [execOp, ho, resolve, invoke, builtin, hs, hx, hr, Result.andThen]
  exact hK _ _ (h v' w' h2 h3 h4 h5)
/-- 'out = append(out, x...)', out the call's own, x a slice that reads as news. -/
theorem wpList_catW (T : ElT P t e z bytes) (h64 : bytes ≤ 64) (h1b : 1 ≤ bytes) (wr : World) (s x : Operand) (B : Nat) (A : Option Addr) (n c : Nat) (xs : List Value)
    (A2 : Option Addr) (m c2 : Nat) (news : List Value)
    (hown : wr.ownsRow B e 1 (.slice A n c) n xs) (hr : Rd wr A2 news) (hm : news.length = m) (h1 : ∀ u ∈ news, u.oneCell' = true) (hB : B ≤ wr.heap.size) (hb : (n + m) * bytes ≤ 150000000000000)
    (hgd : o.guard = none) (ho : o.op = .call { callee := .builtin .append, args := #[s, x], argTypes := #[t, t] })
    (hs : a.eval s = .slice A n c) (hx : a.eval x = .slice A2 m c2)
    (h : ∀ A' c' w', w'.ownsRow B e 1 (.slice A' (n + m) c') (n + m) (xs ++ news) → Below B wr w' → wpList P ops Q rest (a.put o.dst (.slice A' (n + m) c')) w') :
    wpList P ops Q (o :: rest) a wr := by
  cases A2 with
  | none =>
    have := rd_none hr
    subst this
    obtain rfl : m = 0 := by simpa using hm.symm
    obtain ⟨ht, i, hi, hz, hs1, hbb, hzs⟩ := T
    refine wpList_plain hgd fun K hK => ?_
    have hrun := run_append_nothing (P := P) wr B t o.type e i ht hi _ n xs hown c2
    unfold Oper.wp
    simp [execOp, ho, resolve, invoke, builtin, hs, hx, hrun, Result.andThen]
    exact hK _ _ (h A c wr (by simpa using hown) (Below.refl _ _))
  | some ad =>
    refine wpList_own_wide T h64 h1b wr hgd s x ho B _ n xs hs hown ad m c2 news hx hm ?_ h1 hb hB ?_
    · intro j u hu
      have hl : 0 < news.length := by
        rcases Nat.lt_or_ge j news.length with h' | h'
        · omega
        · rw [List.getElem?_eq_none h'] at hu; cases hu
      obtain ⟨b, off, hA, _, hc⟩ := hr hl
      injection hA with hA
      subst hA
      have := hc j u hu
      unfold Addr.add
      by_cases hj : j = 0
      · subst hj; simpa using this
      · simpa [hj] using this
    · intro v' w' hown' hg _ _
      obtain ⟨A', c', rfl⟩ := own_form hown'
      exact h A' c' w' hown' ((Below.refl B wr).grown hg hB (fun k hk => own_row hown k hk))
/-- As a step inside a fence. -/
theorem wpListIn_own_wide {F : Fence} {k : Nat} (T : ElT P t e z bytes) (h64 : bytes ≤ 64) (h1b : 1 ≤ bytes) (w : World) (hgd : o.guard = none) (s x : Operand)
    (ho : o.op = .call { callee := .builtin .append, args := #[s, x], argTypes := #[t, t] }) (B : Nat) (v : Value) (n : Nat) (xs : List Value) (hs : a.eval s = v) (hown : w.ownsRow B e 1 v n xs)
    (ad : Addr) (m c : Nat) (news : List Value) (hx : a.eval x = .slice (some ad) m c) (hl : news.length = m) (hnews : ∀ (j : Nat) (u : Value), news[j]? = some u → w.cell? (ad.add j) = some u) (h1 : ∀ u ∈ news, u.oneCell' = true) (hb : (n + m) * bytes ≤ 150000000000000) (hB : B ≤ w.heap.size)
    (h : ∀ v' w', w'.ownsRow B e 1 v' (n + m) (xs ++ news) → w.grownBy w' v.ownBlock → (v' = .slice none 0 0 ↔ v = .slice none 0 0 ∧ m = 0) → wpListIn F k P ops Q rest (a.put o.dst v') w') :
    wpListIn F k P ops Q (o :: rest) a w := by
  refine wpListIn_plain hgd fun K hK => ?_
  obtain ⟨v', w', hr, h2, h3, h4, h5⟩ := run_own_wide w T h64 h1b o.type B v n xs hown ad m c news hl hnews h1 hb hB
  unfold Oper.wpIn
  refine ⟨?_, ?_⟩
  · simp [Oper.about, ho, resolve, Target.leads, Sem.run_pure]
  · rw [Oper.semAt_plain F _ _ (by rw [ho]; intro c hc'; cases hc')]
    simp [execOp, ho, resolve, invoke, builtin, hs, hx, hr, Result.andThen]
    exact hK _ _ (h v' w' h2 h3 h4)
/-- As a step of a drawn region, out the call's own. -/
theorem step_own_wide {K : Act → World → Prop} {E : Prop} {w : World} (T : ElT P t e z bytes) (h64 : bytes ≤ 64) (h1b : 1 ≤ bytes) (hgd : o.guard = none) (s x : Operand)
    (ho : o.op = .call { callee := .builtin .append, args := #[s, x], argTypes := #[t, t] }) (B : Nat) (v : Value) (n : Nat) (xs : List Value) (hs : a.eval s = v) (hown : w.ownsRow B e 1 v n xs)
    (ad : Addr) (m c : Nat) (news : List Value) (hx : a.eval x = .slice (some ad) m c) (hl : news.length = m) (hnews : ∀ (j : Nat) (u : Value), news[j]? = some u → w.cell? (ad.add j) = some u) (h1 : ∀ u ∈ news, u.oneCell' = true) (hb : (n + m) * bytes ≤ 150000000000000) (hB : B ≤ w.heap.size)
    (h : ∀ v' w', w'.ownsRow B e 1 v' (n + m) (xs ++ news) → w.grownBy w' v.ownBlock → K (a.put o.dst v') w') :
    if Region.wanted o (yielded ops a.tmps) = true then Oper.wp P o a w K Q else E := by
  have hw : Region.wanted o (yielded ops a.tmps) = true := by simp [Region.wanted, hgd]
  rw [if_pos hw]
  obtain ⟨v', w', hr, h2, h3, _⟩ := run_own_wide w T h64 h1b o.type B v n xs hown ad m c news hl hnews h1 hb hB
  unfold Oper.wp
  simp [execOp, ho, resolve, invoke, builtin, hs, hx, hr, Result.andThen]
  exact h v' w' h2 h3
/-- As a step of a drawn region, s with too little room. -/
theorem step_grows_wide {K : Act → World → Prop} {E : Prop} {w : World} (T : ElT P t e z bytes) (h64 : bytes ≤ 64) (h1b : 1 ≤ bytes) (hgd : o.guard = none) (s x : Operand)
    (ho : o.op = .call { callee := .builtin .append, args := #[s, x], argTypes := #[t, t] })
    (ao : Option Addr) (n cap : Nat) (olds : List Value) (hs : a.eval s = .slice ao n cap) (hnone : ao = none → n = 0 ∧ cap = 0) (hlo : olds.length = n) (holds : ∀ b, ao = some b → ∀ (j : Nat) (u : Value), olds[j]? = some u → w.cell? (b.add j) = some u)
    (ad : Addr) (m c : Nat) (news : List Value) (hx : a.eval x = .slice (some ad) m c) (hl : news.length = m) (hnews : ∀ (j : Nat) (u : Value), news[j]? = some u → w.cell? (ad.add j) = some u) (h1 : ∀ u ∈ news, u.oneCell' = true)
    (hfull : cap < n + m) (hb : (n + m) * bytes ≤ 150000000000000)
    (hK : ∀ v' w', w'.ownsRow w.heap.size e 1 v' (n + m) (olds ++ news) → w.grownBy w' none → K (a.put o.dst v') w') :
    if Region.wanted o (yielded ops a.tmps) = true then Oper.wp P o a w K Q else E := by
  have hw : Region.wanted o (yielded ops a.tmps) = true := by simp [Region.wanted, hgd]
  rw [if_pos hw]
  have hrun : ∃ v' w', (Builtin.append_ #[t, t] o.type #[.slice ao n cap, .slice (some ad) m c]).run P w = .ok v' w' ∧ w'.ownsRow w.heap.size e 1 v' (n + m) (olds ++ news) ∧ w.grownBy w' none := by
    cases ao with
    | some b =>
      obtain ⟨c', w', hr, h2, h3⟩ := run_grows_wide w T h64 h1b o.type b n cap olds hlo (holds b rfl) ad m c news hl hnews hfull hb (Nat.le_refl _)
      exact ⟨_, w', hr, h2, h3 none⟩
    | none =>
      obtain ⟨rfl, rfl⟩ := hnone rfl
      obtain rfl : olds = [] := List.eq_nil_of_length_eq_zero hlo
      obtain ⟨v', w', hr, h2, h3, _⟩ := run_own_wide w T h64 h1b o.type w.heap.size (.slice none 0 0) 0 [] (World.ownsRow_nil w _ e 1) ad m c news hl hnews h1 hb (Nat.le_refl _)
      exact ⟨v', w', hr, h2, h3⟩
  obtain ⟨v', w', hr, h2, h3⟩ := hrun
  unfold Oper.wp
  simp [execOp, ho, resolve, invoke, builtin, hs, hx, hr, Result.andThen]
  exact hK v' w' h2 h3
end
end Go.Proofs.Ytoandhhkmkgmaaa

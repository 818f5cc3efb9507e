/- Some of the proof's texts, merged; each one's own words stand ahead of it. -/
import Derived.Test.YtoandhhkmkgmaaaMg14
import Derived.Test.YtoandhhkmkgmaaaMg18
import Derived.Deep.RegionHeld3
import Derived.Test.YtoandhhkmkgmaaaMg4
/- Slices of rules, read and made; contract: the reference's SameRules at rules that are the same. Lists below 2^63. -/
namespace Go.Proofs.Ytoandhhkmkgmaaa
open Go.RowKit

/-- A rule as it lies: where its targets lie and their room, where its needs lie and their room, the rule. -/
abbrev RSlot := (Option Addr × Nat) × (Option Addr × Nat) × RuleT
def rsT (x : RSlot) : Value := .slice x.1.1 x.2.2.1.length x.1.2
def rsN (x : RSlot) : Value := .slice x.2.1.1 x.2.2.2.length x.2.1.2
def rsV (L : List RSlot) : List Value := L.flatMap fun x => [rsT x, rsN x]
def rulesOf (L : List RSlot) : List RuleT := L.map (·.2.2)
def RsIn (x : RSlot) (w : World) : Prop := RlIn x.1.1 x.2.2.1.length x.1.2 x.2.1.1 x.2.2.2.length x.2.1.2 x.2.2 w
theorem rsV_snoc (L : List RSlot) (x : RSlot) : rsV (L ++ [x]) = rsV L ++ [rsT x, rsN x] := by unfold rsV; rw [List.flatMap_append]; simp
structure RsAll (A : Option Addr) (L : List RSlot) (w : World) : Prop where
  rd : Rd w A (rsV L)
  each : ∀ x ∈ L, RsIn x w
theorem RsAll.below {A : Option Addr} {L : List RSlot} {w w' : World} (h : RsAll A L w) (hb : Below w.heap.size w w') : RsAll A L w' := ⟨h.rd.below hb, fun x hx => (h.each x hx).below hb⟩
theorem RsAll.nil (A : Option Addr) (w : World) : RsAll A [] w := ⟨Rd.nil_ _ _, fun x hx => by cases hx⟩
theorem rlInfo : ∃ i, Try.prog.info? 82 = some i ∧ i.zero = some (.agg #[.slice none 0 0, .slice none 0 0]) ∧ i.size = 2 ∧ i.bytes = 48 := by
  have h : (Try.prog.info? 82).map (fun i => (i.zero, i.size, i.bytes)) = some (some (.agg #[.slice none 0 0, .slice none 0 0]), 2, 48) := by kernel_rfl
  cases hi : Try.prog.info? 82 with
  | none => rw [hi] at h; cases h
  | some i =>
    rw [hi] at h
    simp at h
    exact ⟨i, rfl, h⟩
/-- A slot's lists lie in no block of that name. -/
def farS (x : RSlot) (ob : Option Nat) : Prop :=
  (∀ g off, x.1.1 = some ⟨g, off, none⟩ → 0 < (x.2.2.1.map sv).length → some g ≠ ob) ∧ (∀ g off, x.2.1.1 = some ⟨g, off, none⟩ → 0 < (x.2.2.2.map sv).length → some g ≠ ob)
structure OutInv (w : World) (B : Nat) (A : Option Addr) (n c : Nat) (L : List RSlot) : Prop where
  own : w.ownsRow B 82 2 (.slice A n c) n (rsV L)
  len : L.length = n
  each : ∀ x ∈ L, RsIn x w
  far : ∀ x ∈ L, farS x (Value.slice A n c).ownBlock
theorem OutInv.start (w : World) (B : Nat) : OutInv w B none 0 0 [] := ⟨World.ownsRow_nil _ _ _ _, rfl, (fun x hx => by cases hx), (fun x hx => by cases hx)⟩
theorem OutInv.below {w w' : World} {B : Nat} {A : Option Addr} {n c : Nat} {L : List RSlot} (h : OutInv w B A n c L) (hb : Below w.heap.size w w') : OutInv w' B A n c L :=
  ⟨own_belowL h.own hb, h.len, fun x hx => (h.each x hx).below hb, h.far⟩
theorem OutInv.all {w : World} {B : Nat} {A : Option Addr} {n c : Nat} {L : List RSlot} (h : OutInv w B A n c L) : RsAll A L w := ⟨Rd.own2 h.own, h.each⟩
theorem rd_grown {w w' : World} {A : Option Addr} {xs : List Value} {o : Obj} {row : Option Nat} (h : Rd w A xs) (hg : (w.alloc o).grownBy w' row) (hn : ∀ g off, A = some ⟨g, off, none⟩ → 0 < xs.length → some g ≠ row) : Rd w' A xs := fun hp => by
  obtain ⟨g, off, hA, hlt, hc⟩ := h hp
  have e : w'.heap[g]? = w.heap[g]? := by
    rw [hg.block g (by simp; omega) (hn g off hA hp), Below.heap_alloc _ _ _ hlt]
  have hl : g < w'.heap.size := by
    have := hg.size
    simp at this
    omega
  exact ⟨g, off, hA, hl, fun k u hk => by rw [World.cell?_of_block (w := w) e]; exact hc k u hk⟩
theorem RlIn.grown {A1 A2 : Option Addr} {n1 c1 n2 c2 : Nat} {r : RuleT} {w w' : World} {o : Obj} {row : Option Nat} (h : RlIn A1 n1 c1 A2 n2 c2 r w) (hg : (w.alloc o).grownBy w' row)
    (h1 : ∀ g off, A1 = some ⟨g, off, none⟩ → 0 < (r.1.map sv).length → some g ≠ row) (h2 : ∀ g off, A2 = some ⟨g, off, none⟩ → 0 < (r.2.map sv).length → some g ≠ row) : RlIn A1 n1 c1 A2 n2 c2 r w' :=
  ⟨rd_grown h.t hg h1, rd_grown h.n hg h2, h.tl, h.nl, h.tb, h.nb, h.tc, h.nc, h.ts, h.ns⟩
theorem far_new {x : RSlot} {w : World} {ob ob' : Option Nat} (h : RsIn x w) (hf : farS x ob) (hat : ob' = ob ∨ ob' = some (w.heap.size + 1)) : farS x ob' := by
  rcases hat with rfl | rfl
  · exact hf
  · refine ⟨fun g off hA hp e => ?_, fun g off hA hp e => ?_⟩
    · obtain ⟨g', off', hA', hlt, _⟩ := h.t hp
      rw [hA] at hA'
      injection hA' with hA'
      injection hA' with hA' _ _
      injection e with e
      omega
    · obtain ⟨g', off', hA', hlt, _⟩ := h.n hp
      rw [hA] at hA'
      injection hA' with hA'
      injection hA' with hA' _ _
      injection e with e
      omega
/-- 'append(out, x)', out the call's own, x a rule. -/
theorem wpList_pushRl {ops : Array Oper} {rest : List Oper} {o : Oper} {a : Act} {Q : Exit → Act → World → Prop} (wr : World) (s x : Operand) (B : Nat) (A : Option Addr) (n c : Nat) (L : List RSlot) (p : RSlot) (v1 v2 : Value) (hv1 : v1 = rsT p) (hv2 : v2 = rsN p)
    (hO : OutInv wr B A n c L) (hB : B ≤ wr.heap.size) (hn : (n + 1) * 48 ≤ 140737488355328) (hp : RsIn p wr) (hf : farS p (Value.slice A n c).ownBlock)
    (hgd : o.guard = none) (ho : o.op = .call { callee := .builtin .append, args := #[s, x], argTypes := #[43, 43] })
    (hs : a.eval s = .slice A n c) (hx : a.eval x = .slice (some ⟨wr.heap.size, 0, none⟩) 1 1)
    (h : ∀ g c' w', OutInv w' B (some ⟨g, 0, none⟩) (n + 1) c' (L ++ [p]) → Below B wr w' → wpList Try.prog ops Q rest (a.put o.dst (.slice (some ⟨g, 0, none⟩) (n + 1) c')) w') :
    wpList Try.prog ops Q (o :: rest) a (wr.alloc (.cells #[v1, v2] 82)) := by
  subst hv1 hv2
  obtain ⟨i, hi, hz, h1, hb⟩ := rlInfo
  have ht : Try.prog.underlying 43 = some (.slice 82) := by kernel_rfl
  have hB' : B ≤ (wr.alloc (.cells #[rsT p, rsN p] 82)).heap.size := by simp; omega
  refine wpList_append_own_at _ hgd s x 43 ho B 82 i _ 2 48 ht hi hz h1 hb rfl (by decide) (.slice A n c) n (rsV L) hs (hO.own.alloc _) ⟨wr.heap.size, 0, none⟩ 1 1 [rsT p, rsN p] hx rfl ?_ (by intro u hu; simp at hu; rcases hu with rfl | rfl <;> rfl) (by unfold maxLen; omega) hn hB' ?_
  · intro j u hj
    rw [Addr.add_lit, World.cell?_alloc_at _ _ _ _ rfl, Nat.zero_add]
    simpa using hj
  · intro v' w' hown' hg hnil hor
    have hne : v' ≠ .slice none 0 0 := fun e => by have := (hnil.1 e).2; omega
    rcases hown'.2 with ⟨h', _⟩ | ⟨g, cap, cur, h', _⟩
    · exact absurd h' hne
    · subst h'
      have e : (wr.alloc (.cells #[rsT p, rsN p] 82)).heap.size = wr.heap.size + 1 := by simp
      rw [e] at hor
      have hall : ∀ y ∈ L ++ [p], RsIn y wr ∧ farS y (Value.slice A n c).ownBlock := fun y hy => by
        rcases List.mem_append.1 hy with hy | hy
        · exact ⟨hO.each y hy, hO.far y hy⟩
        · rw [List.mem_singleton.1 hy]; exact ⟨hp, hf⟩
      refine h g cap w' ⟨by rw [rsV_snoc]; exact hown', by rw [List.length_append, hO.len]; rfl, fun y hy => ?_, fun y hy => ?_⟩ ?_
      · exact RlIn.grown (hall y hy).1 hg (hall y hy).2.1 (hall y hy).2.2
      · exact far_new (hall y hy).1 (hall y hy).2 hor
      · exact ((Below.refl B wr).alloc hB _).grown hg hB' (fun k hk => (hO.own.lt k hk).1)
/-! ### The same rules -/
structure RdTwo (x : RSlot) (w : World) : Prop where
  t : Rd w x.1.1 (x.2.2.1.map sv)
  n : Rd w x.2.1.1 (x.2.2.2.map sv)
  tb : x.2.2.1.length ≤ 9223372036854775807
  nb : x.2.2.2.length ≤ 9223372036854775807
theorem RdTwo.below {x : RSlot} {w w' : World} (h : RdTwo x w) (hb : Below w.heap.size w w') : RdTwo x w' := ⟨h.t.below hb, h.n.below hb, h.tb, h.nb⟩
structure RsRd (A : Option Addr) (L : List RSlot) (w : World) : Prop where
  rd : Rd w A (rsV L)
  each : ∀ x ∈ L, RdTwo x w
theorem RsAll.two {A : Option Addr} {L : List RSlot} {w : World} (h : RsAll A L w) : RsRd A L w := ⟨h.rd, fun x hx => ⟨(h.each x hx).t, (h.each x hx).n, (h.each x hx).tb, (h.each x hx).nb⟩⟩
set_option maxRecDepth 100000 in
set_option maxHeartbeats 1000000 in
theorem sameTextsR_any {A B : Option Addr} {n c d : Nat} (l : List (List UInt8)) (w : World) (hr : Rd w A (l.map sv)) (hr2 : Rd w B (l.map sv)) (hn : l.length = n) (hb : n ≤ 9223372036854775807) :
    Calls Try.prog 54 #[.slice A n c, .slice B n d] w fun e w' => e = .returned (.bool true) ∧ Below w.heap.size w w' := by
  have HR := Lib.hid hr
  have HR2 := Lib.hid hr2
  have HN := Lib.hid hn
  have hz : ((n : Int) != (n : Int)) = false := by simp
  clear hr hr2 hn
  go_enter Try.func54, Try.ntmps54
  go_wp2_with fail
  go_loopw [5, 13] (fun _ i wr => ∃ k q : Nat, k ≤ n ∧ i = .int .i64 (k : Int) ∧ wr = w.drewN q) (fun _ i _ => n - (intOf i).toNat)
  case atStart => exact ⟨0, 0, by omega, rfl, rfl⟩
  case round =>
    obtain ⟨k, q, hk, rfl, rfl⟩ := hrel
    by_cases hlt : k < n
    · obtain ⟨x, hx⟩ : ∃ x, l[k]? = some x := ⟨_, List.getElem?_eq_getElem (by rw [HN.out]; exact hlt)⟩
      obtain ⟨b1, o1, rfl, e1⟩ := HR.out.scell hx
      obtain ⟨b2, o2, rfl, e2⟩ := HR2.out.scell hx
      generalize (⟨x.toArray⟩ : ByteArray) = bx at e1 e2
      have k0 : (0 : Int) ≤ (k : Int) := by omega
      have k1 : (k : Int) < (n : Int) := by omega
      clear hx
      go_wp2_with fail
      go_quiet (fail)
      go_wp2_with fail
      go_roundw
      case rel => exact ⟨k + 1, _, by omega, by go_num, rfl⟩
      case measure => simp [intOf]; omega
    · obtain rfl : k = n := by omega
      go_wp2_with fail
      go_ret
      exact ⟨rfl, below_of_drewN _ _⟩
set_option maxRecDepth 100000 in
set_option maxHeartbeats 4000000 in
theorem sameRules_any {A B : Option Addr} {n c d : Nat} (L1 L2 : List RSlot) (w : World) (h1 : RsRd A L1 w) (h2 : RsRd B L2 w) (he : rulesOf L1 = rulesOf L2) (hn1 : L1.length = n) (hb : n ≤ 9223372036854775807) :
    Calls Try.prog 23 #[.slice A n c, .slice B n d] w fun e w' => e = .returned (.bool true) ∧ Below w.heap.size w w' := by
  have H1 := Lib.hid h1
  have H2 := Lib.hid h2
  have HN := Lib.hid hn1
  have HN2 : Hid (L2.length = n) := Lib.hid (by have := congrArg List.length he; unfold rulesOf at this; simpa [hn1] using this.symm)
  have HE := Lib.hid he
  have hz : ((n : Int) != (n : Int)) = false := by simp
  clear h1 h2 hn1 he
  go_enter Try.func23, Try.ntmps23
  go_wp2_with fail
  go_loopw [5, 13] (fun _ i wr => ∃ k : Nat, k ≤ n ∧ i = .int .i64 (k : Int) ∧ Hid (Below w.heap.size w wr)) (fun _ i _ => n - (intOf i).toNat)
  case atStart => exact ⟨0, by omega, rfl, Lib.hid (Below.refl _ _)⟩
  case round =>
    obtain ⟨k, hk, rfl, HB⟩ := hrel
    by_cases hlt : k < n
    · obtain ⟨x, hx⟩ : ∃ x, L1[k]? = some x := ⟨_, List.getElem?_eq_getElem (by rw [HN.out]; exact hlt)⟩
      obtain ⟨y, hy⟩ : ∃ y, L2[k]? = some y := ⟨_, List.getElem?_eq_getElem (by rw [HN2.out]; exact hlt)⟩
      have hxy : x.2.2 = y.2.2 := by
        have e1 : (rulesOf L1)[k]? = some x.2.2 := by unfold rulesOf; rw [List.getElem?_map, hx]; rfl
        have e2 : (rulesOf L2)[k]? = some y.2.2 := by unfold rulesOf; rw [List.getElem?_map, hy]; rfl
        rw [HE.out, e2] at e1
        injection e1 with e1
        exact e1.symm
      have HX := Lib.hid (H1.out.each x (List.mem_of_getElem? hx))
      have HY := Lib.hid (H2.out.each y (List.mem_of_getElem? hy))
      obtain ⟨b1, o1, rfl, a1, a2⟩ := (H1.out.rd.below HB.out).two hx
      obtain ⟨b2, o2, rfl, d1, d2⟩ := (H2.out.rd.below HB.out).two hy
      obtain ⟨⟨X1, xc1⟩, ⟨X2, xc2⟩, r⟩ := x
      obtain ⟨⟨Y1, yc1⟩, ⟨Y2, yc2⟩, r'⟩ := y
      simp only [] at hxy
      subst hxy
      have hcap : 2 * k = k * 2 := by omega
      rw [hcap] at a1 a2 d1 d2
      simp only [rsT, rsN] at a1 a2 d1 d2
      have CT := Lib.hid (fun W (hW : Below w.heap.size w W) => sameTextsR_any (c := xc1) (d := yc1) r.1 W (HX.out.t.below hW) (HY.out.t.below hW) rfl HX.out.tb)
      have CN := Lib.hid (fun W (hW : Below w.heap.size w W) => sameTextsR_any (c := xc2) (d := yc2) r.2 W (HX.out.n.below hW) (HY.out.n.below hW) rfl HX.out.nb)
      clear hx hy hcap HX HY
      have HSL := Lib.hid (fun W (hW : Below wr.heap.size wr W) => (⟨cell_kept a1 hW, cell_kept a2 hW, cell_kept d1 hW, cell_kept d2 hW, hW⟩ : W.cell? ⟨b1, o1 + k * 2, none⟩ = some (.slice X1 r.1.length xc1) ∧ W.cell? ⟨b1, o1 + k * 2 + 1, none⟩ = some (.slice X2 r.2.length xc2) ∧ W.cell? ⟨b2, o2 + k * 2, none⟩ = some (.slice Y1 r.1.length yc1) ∧ W.cell? ⟨b2, o2 + k * 2 + 1, none⟩ = some (.slice Y2 r.2.length yc2) ∧ Below wr.heap.size wr W))
      generalize r.1.length = n1 at *
      generalize r.2.length = n2 at *
      have k0 : (0 : Int) ≤ (k : Int) := by omega
      have k1 : (k : Int) < (n : Int) := by omega
      have b0 := Below.refl wr.heap.size wr
      have bd : Below wr.heap.size wr wr.drew := Below.drew b0
      go_wp2_with fail
      go_region_held3 (fun W => W.cell? ⟨b1, o1 + k * 2, none⟩ = some (.slice X1 n1 xc1) ∧ W.cell? ⟨b1, o1 + k * 2 + 1, none⟩ = some (.slice X2 n2 xc2) ∧ W.cell? ⟨b2, o2 + k * 2, none⟩ = some (.slice Y1 n1 yc1) ∧ W.cell? ⟨b2, o2 + k * 2 + 1, none⟩ = some (.slice Y2 n2 yc2) ∧ Below wr.heap.size wr W)
        ((refine HSL.out _ ?_; first | assumption | exact Below.drew (by assumption)))
        ((first
          | (go_at_call 54; (with_reducible refine (CT.out _ (below_then HB.out (by assumption))).mono ?_); rintro e u1 ⟨rfl, h1⟩; have bu1 := below_then (by assumption) h1)
          | (go_at_call 54; (with_reducible refine (CN.out _ (below_then HB.out (by assumption))).mono ?_); rintro e u2 ⟨rfl, h2⟩; have bu2 := below_then (by assumption) h2)))
      have HB2 := Lib.hid (below_then HB.out bu2)
      clear a1 a2 d1 d2 b0 bd HSL CT CN
      rename_i hHeld
      clear hHeld
      clear h1 h2 bu1 bu2
      go_wp2_with fail
      go_roundw
      case rel => exact ⟨k + 1, by omega, by go_num, HB2⟩
      case measure => simp [intOf]; omega
    · obtain rfl : k = n := by omega
      go_wp2_with fail
      go_ret
      exact ⟨rfl, HB.out⟩
end Go.Proofs.Ytoandhhkmkgmaaa
/- Contracts: the reference's needsOf and RulesJoined. A slice of rules as it lies; lists and texts below 2^63. -/
namespace Go.Proofs.Ytoandhhkmkgmaaa
open Go.RowKit

theorem own_cap {w : World} {B n c : Nat} {A : Option Addr} {l : List Value} {e : TypeId} (h : w.ownsRow B e 1 (.slice A n c) n l) : n ≤ c := by
  rcases Nat.eq_zero_or_pos n with h0 | h0
  · omega
  · exact (own_more h h0).choose_spec.2
theorem needsR_snoc (l : List RuleT) (r : RuleT) (t : KeyT) : needsR (l ++ [r]) t = if t ∈ r.1 then addAll (needsR l t) r.2 else needsR l t := by unfold needsR; rw [List.foldl_append]; rfl
theorem needsR_len {m : Nat} {l : List RuleT} (h : ∀ r ∈ l, r.2.length ≤ m) (t : KeyT) : ∀ i, (needsR (l.take i) t).length ≤ m * i
  | 0 => by simp [needsR]
  | i + 1 => by
    have ih := needsR_len h t i
    have hmi : m * (i + 1) = m * i + m := Nat.mul_succ m i
    by_cases hi : i < l.length
    · have hr := h _ (List.getElem_mem hi)
      rw [take_snocS (List.getElem?_eq_getElem hi), needsR_snoc]
      split
      · have := addAll_len l[i].2 (needsR (l.take i) t); omega
      · omega
    · rw [List.take_of_length_le (by omega)] at ih ⊢
      omega
theorem needsR_each {P : KeyT → Prop} {l : List RuleT} (h : ∀ r ∈ l, ∀ x ∈ r.2, P x) (t : KeyT) : ∀ x ∈ needsR l t, P x := by
  unfold needsR
  have key : ∀ (l : List RuleT) (o : List KeyT), (∀ x ∈ o, P x) → (∀ r ∈ l, ∀ x ∈ r.2, P x) → ∀ x ∈ l.foldl (fun o r => if t ∈ r.1 then addAll o r.2 else o) o, P x := by
    intro l
    induction l with
    | nil => intro o ho _; exact ho
    | cons r l ih =>
      intro o ho hl
      rw [List.foldl_cons]
      refine ih _ ?_ (fun q hq => hl q (List.mem_cons_of_mem _ hq))
      split
      · exact addAll_each r.2 o ho (hl r (List.mem_cons_self ..))
      · exact ho
  exact key l [] (fun x hx => by cases hx) h
theorem rulesOf_at {L : List RSlot} {i : Nat} {x : RSlot} (h : L[i]? = some x) : (rulesOf L)[i]? = some x.2.2 := by unfold rulesOf; rw [List.getElem?_map, h]; rfl
theorem rulesOf_take (L : List RSlot) (i : Nat) : rulesOf (L.take i) = (rulesOf L).take i := by unfold rulesOf; rw [List.map_take]
def NdPost (l : List RuleT) (t : KeyT) (w : World) (e : Ending) (w' : World) : Prop :=
  ∃ A c, e = .returned (.slice A (needsR l t).length c) ∧ w'.ownsRow w.heap.size 9 1 (.slice A (needsR l t).length c) (needsR l t).length ((needsR l t).map sv) ∧ Below w.heap.size w w'
set_option maxRecDepth 100000 in
set_option maxHeartbeats 4000000 in
theorem needsOf_any {A : Option Addr} {n c : Nat} (L : List RSlot) (t : KeyT) (w : World) (hA : RsAll A L w) (hn : L.length = n) (hb : n ≤ 100) (h20 : ∀ r ∈ rulesOf L, r.2.length ≤ 64) :
    Calls Try.prog 50 #[.slice A n c, .string ⟨t.toArray⟩] w (NdPost (rulesOf L) t w) := by
  have HA := Lib.hid hA
  have HN := Lib.hid hn
  have H20 := Lib.hid h20
  have HLN := Lib.hid (needsR_len h20 t)
  clear hA hn h20
  generalize hbt : (⟨t.toArray⟩ : ByteArray) = bt at *
  have HBT := Lib.hid hbt
  clear hbt
  go_enter Try.func50, Try.ntmps50
  go_wp2_with fail
  go_loopw [5, 7, 9, 12] (fun v _ _ i wr => ∃ (k : Nat) (A' : Option Addr) (c' : Nat) (zs : List KeyT), i = .int .i64 (k : Int) ∧ k ≤ n ∧ v = .slice A' zs.length c' ∧ zs.length ≤ 64 * k ∧ Hid (zs = needsR ((rulesOf L).take k) t) ∧ Hid (wr.ownsRow w.heap.size 9 1 (.slice A' zs.length c') zs.length (zs.map sv)) ∧ Hid (Below w.heap.size w wr)) (fun _ _ _ i _ => n - (intOf i).toNat)
  case atStart => exact ⟨0, none, 0, [], rfl, by omega, rfl, by simp, Lib.hid rfl, Lib.hid (World.ownsRow_nil _ _ _ _), Lib.hid (Below.refl _ _)⟩
  case round =>
    obtain ⟨k, A', c', zs, rfl, hk, rfl, hzl, HZ, HO, HB⟩ := hrel
    by_cases hlt : k < n
    · obtain ⟨x, hx⟩ : ∃ x, L[k]? = some x := ⟨_, List.getElem?_eq_getElem (by rw [HN.out]; exact hlt)⟩
      have HX := Lib.hid (HA.out.each x (List.mem_of_getElem? hx))
      have HR := Lib.hid (rulesOf_at hx)
      have hr20 := H20.out _ (List.mem_of_getElem? HR.out)
      obtain ⟨b1, o1, rfl, a1, a2⟩ := (HA.out.rd.below HB.out).two hx
      obtain ⟨⟨X1, xc1⟩, ⟨X2, xc2⟩, r⟩ := x
      have hcap : 2 * k = k * 2 := by omega
      rw [hcap] at a1 a2
      unfold RsIn at HX
      simp only [rsT, rsN] at a1 a2 HX HR hr20
      obtain ⟨y, hy⟩ := rbox_two wr (.slice X1 r.1.length xc1) (.slice X2 r.2.length xc2) 82
      have Y := Lib.hid y
      have HY := Lib.hid (below_newL HB.out hy)
      have HO1 := Lib.hid (own_below HO.out hy)
      have hk1 : (k : Int) < (n : Int) := by omega
      clear hx hcap y hy
      have CP := Lib.hid (place_any (c := xc1) r.1 t (wr.alloc (.cells #[.slice X1 r.1.length xc1, .slice X2 r.2.length xc2] 82)) (HX.out.t.below HY.out) rfl HX.out.tb)
      unfold sv at CP
      rw [HBT.out] at CP
      have HSN : Hid (needsR ((rulesOf L).take (k + 1)) t = if t ∈ r.1 then addAll zs r.2 else zs) := Lib.hid (by rw [take_snocS HR.out, needsR_snoc, HZ.out])
      go_upto_region 5 with fail
      generalize wr.alloc (.cells #[.slice X1 r.1.length xc1, .slice X2 r.2.length xc2] 82) = w1 at *
      obtain ⟨y1, y2⟩ := Y.out
      go_wp2_with fail
      refine CP.out.mono ?_
      rintro e w2 ⟨i, rfl, rfl, hi⟩
      rcases hi with ⟨rfl, hno⟩ | ⟨q, rfl, hq⟩
      · have HS2 : Hid (zs = needsR ((rulesOf L).take (k + 1)) t) := Lib.hid (by rw [HSN.out, if_neg hno])
        clear hno y1 y2
        go_wp2_with fail
        exact ⟨⟨k + 1, A', c', zs, rfl, by omega, rfl, by omega, HS2, HO1, HY⟩, measL hlt⟩
      · have HT : Hid (t ∈ r.1) := Lib.hid (List.mem_of_getElem? hq)
        have k0 : ¬ (q : Int) < 0 := by omega
        clear hq
        have hbsz := HY.out.size
        go_wp2_with fail
        go_loopw [5, 9, 24] (fun v _ i wq => ∃ (j : Nat) (A2 : Option Addr) (c2 : Nat) (ys : List KeyT), i = .int .i64 (j : Int) ∧ j ≤ r.2.length ∧ v = .slice A2 ys.length c2 ∧ ys.length ≤ 64 * k + j ∧ Hid (ys = addAll zs (r.2.take j)) ∧ Hid (wq.ownsRow w.heap.size 9 1 (.slice A2 ys.length c2) ys.length (ys.map sv)) ∧ Hid (Below w.heap.size w wq)) (fun _ _ i _ => r.2.length - (intOf i).toNat)
        case atStart => exact ⟨0, A', c', zs, rfl, by omega, rfl, by omega, Lib.hid rfl, HO1, HY⟩
        case round =>
          obtain ⟨j, A2, c2, ys, rfl, hj, rfl, hyl, HYS, HO2, HB2⟩ := hrel
          by_cases hlt2 : j < r.2.length
          · obtain ⟨u, hu⟩ : ∃ u, r.2[j]? = some u := ⟨_, List.getElem?_eq_getElem hlt2⟩
            obtain ⟨b2, o2, rfl, hc⟩ := (HX.out.n.below HB2.out).scell hu
            have HU := Lib.hid (show addAll zs (r.2.take (j + 1)) = addU ys u by rw [take_snocS hu, addAll_snoc, HYS.out])
            have CP2 := Lib.hid (place_any (c := c2) ys u wr (Rd.of_own HO2.out) rfl (by omega))
            have HO3 := HO2.out
            unfold sv at CP2
            have HSV : Hid (sv u = .string ⟨u.toArray⟩) := Lib.hid rfl
            generalize (⟨u.toArray⟩ : ByteArray) = bu at *
            have hj1 : (j : Int) < (r.2.length : Int) := by omega
            have hszq := HB2.out.size
            clear hu
            have HO4 := Lib.hid HO3
            clear HO3
            go_wp2_with fail
            refine CP2.out.mono ?_
            rintro e w3 ⟨i, rfl, rfl, hi⟩
            rcases hi with ⟨rfl, hno⟩ | ⟨q2, rfl, hq2⟩
            · have HU2 : Hid (ys ++ [u] = addAll zs (r.2.take (j + 1))) := Lib.hid (by rw [HU.out]; unfold addU; rw [if_neg hno])
              clear hno
              go_wp2_with (at_builtin; refine wpList_push elStr wr _ _ w.heap.size A2 ys.length c2 (ys.map sv) (.string bu) HO4.out rfl hszq (by omega) (by omega) rfl rfl rfl rfl ?_; intro A5 c5 w5 hown5 hb5)
              rw [← HSV.out, ← List.map_singleton, ← List.map_append] at hown5
              have HO5 := Lib.hid hown5
              have HB5 := Lib.hid (HB2.out.trans hb5)
              have HL5 : Hid ((ys ++ [u]).length = ys.length + 1) := Lib.hid (by simp)
              clear hown5 hb5
              exact ⟨⟨j + 1, A5, c5, ys ++ [u], rfl, by omega, by rw [HL5.out], by rw [HL5.out]; omega, HU2, Lib.hid (by rw [HL5.out]; exact HO5.out), HB5⟩, measL hlt2⟩
            · have HU2 : Hid (ys = addAll zs (r.2.take (j + 1))) := Lib.hid (by rw [HU.out]; unfold addU; rw [if_pos (List.mem_of_getElem? hq2)])
              have k2 : ¬ (q2 : Int) < 0 := by omega
              clear hq2
              go_wp2_with fail
              exact ⟨⟨j + 1, A2, c2, ys, rfl, by omega, rfl, by omega, HU2, HO2, HB2⟩, measL hlt2⟩
          · obtain rfl : j = r.2.length := by omega
            have HS2 : Hid (ys = needsR ((rulesOf L).take (k + 1)) t) := Lib.hid (by rw [HSN.out, if_pos HT.out, HYS.out, List.take_length])
            go_wp2_with fail
            exact ⟨⟨k + 1, A2, c2, ys, rfl, by omega, rfl, by omega, HS2, HO2, HB2⟩, measL hlt⟩
    · obtain rfl : k = n := by omega
      have HE : Hid (zs = needsR (rulesOf L) t) := Lib.hid (by rw [HZ.out, List.take_of_length_le (by unfold rulesOf; rw [List.length_map, HN.out]; exact Nat.le_refl _)])
      go_wp2_with fail
      go_ret
      exact ⟨A', c', by rw [← HE.out]; rfl, by rw [← HE.out]; exact HO.out, HB.out⟩
end Go.Proofs.Ytoandhhkmkgmaaa
/- Contract: the reference's RulesJoined. A slice of rules as it lies; lists and texts below 2^63. -/
namespace Go.Proofs.Ytoandhhkmkgmaaa
open Go.RowKit

def JPost (l : List RuleT) (w : World) (e : Ending) (w' : World) : Prop :=
  ∃ A c L, e = .returned (.tuple #[.slice A L.length c, .int .i64 (joinE l : Nat)]) ∧ RsAll A L w' ∧ rulesOf L = joinR l ∧ Below w.heap.size w w'
theorem jPost_no {l : List RuleT} {w w' : World} {v : Int} (h : joinE l ≠ 0) (hv : v = (joinE l : Nat)) (hb : Below w.heap.size w w') : JPost l w (.returned (.tuple #[.slice none 0 0, .int .i64 v])) w' :=
  ⟨none, 0, [], by rw [hv]; rfl, RsAll.nil _ _, by rw [joinR_no h]; rfl, hb⟩
theorem farS_new {w0 : World} {B n c : Nat} {A : Option Addr} {L : List RSlot} (hO : OutInv w0 B A n c L) {x : RSlot} (h1 : ∀ g off, x.1.1 = some ⟨g, off, none⟩ → 0 < (x.2.2.1.map sv).length → w0.heap.size ≤ g ∨ g < B) (h2 : ∀ g off, x.2.1.1 = some ⟨g, off, none⟩ → 0 < (x.2.2.2.map sv).length → w0.heap.size ≤ g ∨ g < B) : farS x (Value.slice A n c).ownBlock := by
  refine ⟨fun g off hA hp e => ?_, fun g off hA hp e => ?_⟩
  · have h3 := hO.own.lt g e.symm
    have := h1 g off hA hp
    omega
  · have h3 := hO.own.lt g e.symm
    have := h2 g off hA hp
    omega
theorem own_ge {w : World} {B n c : Nat} {A : Option Addr} {xs : List Value} {e : TypeId} (h : w.ownsRow B e 1 (.slice A n c) n xs) : ∀ g off, A = some ⟨g, off, none⟩ → B ≤ g := fun g off hA => by
  rcases h.2 with ⟨hv, _⟩ | ⟨g', cap, cur, hv, hg, _⟩
  · injection hv with hv _ _; rw [hA] at hv; cases hv
  · injection hv with hv _ _
    rw [hA] at hv
    injection hv with hv
    injection hv with hv _ _
    omega
theorem rsIn_one {w : World} {b : Nat} {A : Option Addr} {c : Nat} {t : KeyT} {ns : List KeyT} (h1 : Rd w (some ⟨b, 0, none⟩) ([t].map sv)) (h2 : Rd w A (ns.map sv)) (hc : ns.length ≤ c) (ht : t.length ≤ 40) (hn : ∀ s ∈ ns, s.length ≤ 40) (hl : ns.length ≤ 4000) : RsIn ((some ⟨b, 0, none⟩, 1), (A, c), ([t], ns)) w :=
  ⟨h1, h2, rfl, rfl, by simp, by simp only []; omega, Nat.le_refl _, hc, fun s hs => by rw [List.mem_singleton.1 hs]; omega, fun s hs => by have := hn s hs; omega⟩
theorem tgts_good {l : List RuleT} (h : ∀ r ∈ l, rlE r = 0) : ∀ t ∈ tgtsR l, t.length ≤ 40 := fun t ht => by
  unfold tgtsR at ht
  rw [mem_rising] at ht
  obtain ⟨r, hr, htr⟩ := List.mem_flatMap.1 ht
  obtain ⟨_, _, _, g, _, _, _⟩ := rlE_ok (h r hr)
  have := List.all_eq_true.1 g t htr
  unfold goodName at this
  simp at this
  exact this.2.2
theorem needs_good {l : List RuleT} (h : ∀ r ∈ l, rlE r = 0) (t : KeyT) : ∀ s ∈ needsR l t, s.length ≤ 40 :=
  needsR_each (fun r hr x hx => by
    obtain ⟨_, _, _, _, g, _, _⟩ := rlE_ok (h r hr)
    have := List.all_eq_true.1 g x hx
    unfold goodName at this
    simp at this
    exact this.2.2) t
set_option maxRecDepth 100000 in
set_option maxHeartbeats 4000000 in
theorem rJoined_any {A : Option Addr} {n c : Nat} (L : List RSlot) (w : World) (hA : RsAll A L w) (hn : L.length = n) (hb : n ≤ 9223372036854775807) :
    Calls Try.prog 48 #[.slice A n c] w (JPost (rulesOf L) w) := by
  have HA := Lib.hid hA
  have HN := Lib.hid hn
  have HRL : Hid ((rulesOf L).length = n) := Lib.hid (by unfold rulesOf; rw [List.length_map, hn])
  clear hA hn
  go_enter Try.func48, Try.ntmps48
  by_cases h100 : 100 < n
  · have HE : Hid (joinE (rulesOf L) = 2) := Lib.hid (joinE_big (by rw [HRL.out]; exact h100))
    have h1 : (100 : Int) < (n : Int) := by omega
    clear h100
    go_wp2_with fail
    go_ret2
    exact jPost_no (by rw [HE.out]; decide) (by rw [HE.out]; rfl) (Below.refl _ _)
  have h1 : ¬ (100 : Int) < (n : Int) := by omega
  have H100 : Hid (¬ 100 < (rulesOf L).length) := Lib.hid (by rw [HRL.out]; exact h100)
  go_wp2_with fail
  go_loopw [4, 6, 7, 17] (fun v _ _ i wr => ∃ (k : Nat) (A' : Option Addr) (c' : Nat) (zs : List KeyT), i = .int .i64 (k : Int) ∧ k ≤ n ∧ v = .slice A' zs.length c' ∧ zs.length ≤ 20 * k ∧ Hid (zs = ((rulesOf L).take k).flatMap (·.1)) ∧ Hid (∀ q ∈ (rulesOf L).take k, rlE q = 0) ∧ Hid (wr.ownsRow w.heap.size 9 1 (.slice A' zs.length c') zs.length (zs.map sv)) ∧ Hid (Below w.heap.size w wr)) (fun _ _ _ i _ => n - (intOf i).toNat)
  case atStart => exact ⟨0, none, 0, [], rfl, by omega, rfl, by simp, Lib.hid rfl, Lib.hid (by simp), Lib.hid (World.ownsRow_nil _ _ _ _), Lib.hid (Below.refl _ _)⟩
  case round =>
    obtain ⟨k, A', c', zs, rfl, hk, rfl, hzl, HZ, HOK, HO, HB⟩ := hrel
    by_cases hlt : k < n
    · obtain ⟨x, hx⟩ : ∃ x, L[k]? = some x := ⟨_, List.getElem?_eq_getElem (by rw [HN.out]; exact hlt)⟩
      have HX := Lib.hid (HA.out.each x (List.mem_of_getElem? hx))
      have HR := Lib.hid (rulesOf_at hx)
      obtain ⟨b1, o1, rfl, a1, a2⟩ := (HA.out.rd.below HB.out).two hx
      obtain ⟨⟨X1, xc1⟩, ⟨X2, xc2⟩, r⟩ := x
      have hcap : 2 * k = k * 2 := by omega
      rw [hcap] at a1 a2
      unfold RsIn at HX
      simp only [rsT, rsN] at a1 a2 HX HR
      obtain ⟨y, hy⟩ := rbox_two wr (.slice X1 r.1.length xc1) (.slice X2 r.2.length xc2) 82
      have Y := Lib.hid y
      have HY := Lib.hid (below_newL HB.out hy)
      have HO1 := Lib.hid (own_below HO.out hy)
      have hk1 : (k : Int) < (n : Int) := by omega
      clear hx hcap y hy
      have CF := Lib.hid (rFault_any (wr.alloc (.cells #[.slice X1 r.1.length xc1, .slice X2 r.2.length xc2] 82)) (HX.out.below HY.out))
      unfold rlV at CF
      go_upto_region 7 with fail
      generalize wr.alloc (.cells #[.slice X1 r.1.length xc1, .slice X2 r.2.length xc2] 82) = w1 at *
      obtain ⟨y1, y2⟩ := Y.out
      go_wp2_with fail
      refine CF.out.mono ?_
      rintro e w2 ⟨rfl, hb2⟩
      have HB2 := Lib.hid (below_newL HY.out hb2)
      have HO2 := Lib.hid (own_below HO1.out hb2)
      have HY2 := Lib.hid (Y.out.below hb2)
      clear hb2 y1 y2
      obtain ⟨y1, y2⟩ := HY2.out
      by_cases h0 : rlE r = 0
      · have HOK2 : Hid (∀ q ∈ (rulesOf L).take (k + 1), rlE q = 0) := Lib.hid (fun q hq => by
          rw [take_snocS HR.out] at hq
          rcases List.mem_append.1 hq with hq | hq
          · exact HOK.out q hq
          · rw [List.mem_singleton.1 hq]; exact h0)
        have h20 := (rlE_ok h0).1
        have HZ2 : Hid (zs ++ r.1 = ((rulesOf L).take (k + 1)).flatMap (·.1)) := Lib.hid (by rw [take_snocS HR.out, List.flatMap_append, HZ.out]; simp)
        have HRD := Lib.hid (HX.out.t.below HB2.out)
        have hszq := HB2.out.size
        rw [h0]
        have hm : (r.1.map sv).length = r.1.length := List.length_map _
        have HM := Lib.hid hm
        have HLZ : Hid ((zs ++ r.1).length = zs.length + r.1.length) := Lib.hid List.length_append
        clear h0 hm
        generalize r.1.length = rn at *
        generalize zs.length = zn at *
        go_wp2_with (at_builtin; refine wpList_cat elStr w2 _ _ w.heap.size A' zn c' (zs.map sv) X1 rn xc1 (r.1.map sv) HO2.out HRD.out HM.out (sv_one r.1) hszq (by omega) (by omega) rfl rfl rfl rfl ?_; intro A5 c5 w5 hown5 hb5)
        rw [← List.map_append] at hown5
        have HO5 := Lib.hid hown5
        have HB5 := Lib.hid (HB2.out.trans hb5)
        clear hown5 hb5
        exact ⟨⟨k + 1, A5, c5, zs ++ r.1, rfl, by omega, by rw [HLZ.out], by rw [HLZ.out]; omega, HZ2, HOK2, Lib.hid (by rw [HLZ.out]; exact HO5.out), HB5⟩, measL hlt⟩
      · have HE1 := Lib.hid (firstE_at HR.out HOK.out h0)
        have HE : Hid (joinE (rulesOf L) = rlE r) := Lib.hid (by rw [joinE_bad H100.out (by rw [HE1.out]; exact h0), HE1.out])
        have HE0 := Lib.hid h0
        have hn0 : (((rlE r : Nat) : Int) != 0) = true := by simp; omega
        clear h0
        go_wp2_with fail
        go_ret2
        exact jPost_no (by rw [HE.out]; exact HE0.out) (by rw [HE.out]) HB2.out
    · obtain rfl : k = n := by omega
      have HT : Hid ((rulesOf L).take k = rulesOf L) := Lib.hid (List.take_of_length_le (by rw [HRL.out]; exact Nat.le_refl _))
      rw [HT.out] at HZ HOK
      have HF0 := Lib.hid (firstE_no HOK.out)
      have CR := Lib.hid (rRising_any (c := c') zs wr (Rd.of_own HO.out) rfl (by omega))
      have HTG : Hid (rising zs = tgtsR (rulesOf L)) := Lib.hid (by rw [HZ.out]; rfl)
      unfold RisPost at CR
      rw [HTG.out] at CR
      clear h100
      go_wp2_with fail
      refine CR.out.mono ?_
      rintro e w6 ⟨AT, cT, rfl, hrd, hb6⟩
      have HRT := Lib.hid hrd
      have HB6 := Lib.hid (below_newL HB.out hb6)
      clear hrd hb6
      have HMY := Lib.hid (joinE_many H100.out HF0.out)
      generalize hTT : tgtsR (rulesOf L) = TT at *
      have HTT := Lib.hid hTT
      clear hTT
      by_cases h64 : 64 < TT.length
      · have HE : Hid (joinE (rulesOf L) = 2) := Lib.hid (HMY.out (.inl h64))
        have h2 : (64 : Int) < (TT.length : Int) := by omega
        clear h64
        go_wp2_with fail
        go_ret2
        exact jPost_no (by rw [HE.out]; decide) (by rw [HE.out]; rfl) HB6.out
      have h2 : ¬ (64 : Int) < (TT.length : Int) := by omega
      have H64 := Lib.hid h64
      have ht64 : TT.length ≤ 64 := by omega
      have HTN := Lib.hid (show TT.length = TT.length from rfl)
      clear h64
      go_wp2_with fail
      go_loopw [8, 10, 11, 38] (fun v _ _ i wq => ∃ (j : Nat) (AO : Option Addr) (cO : Nat) (LO : List RSlot), i = .int .i64 (j : Int) ∧ j ≤ TT.length ∧ v = .slice AO j cO ∧ Hid (rulesOf LO = (TT.take j).map fun t => ([t], needsR (rulesOf L) t)) ∧ Hid (∀ t ∈ TT.take j, (needsR (rulesOf L) t).length ≤ 64) ∧ Hid (OutInv wq w6.heap.size AO j cO LO) ∧ Hid (Below w6.heap.size w6 wq)) (fun _ _ _ i _ => TT.length - (intOf i).toNat)
      case atStart => exact ⟨0, none, 0, [], rfl, by omega, rfl, Lib.hid rfl, Lib.hid (by simp), Lib.hid (OutInv.start _ _), Lib.hid (Below.refl _ _)⟩
      case round =>
        obtain ⟨j, AO, cO, LO, rfl, hj, rfl, HRO, HW, HOI, HBQ⟩ := hrel
        by_cases hlt : j < TT.length
        · obtain ⟨t, ht⟩ : ∃ t, TT[j]? = some t := ⟨_, List.getElem?_eq_getElem hlt⟩
          obtain ⟨b3, o3, rfl, ec⟩ := (HRT.out.below HBQ.out).scell ht
          have HTJ := Lib.hid ht
          have HT40 : Hid (t.length ≤ 40) := Lib.hid (tgts_good HOK.out t (by rw [HTT.out]; exact List.mem_of_getElem? ht))
          have HN40 := Lib.hid (needs_good HOK.out t)
          have CN := Lib.hid (needsOf_any (c := c) L t wr (HA.out.below (below_newL HB6.out HBQ.out)) HN.out (by omega) (fun r hr => Nat.le_trans (rlE_ok (HOK.out r hr)).2.1 (by decide)))
          have HSV : Hid (sv t = .string ⟨t.toArray⟩) := Lib.hid rfl
          have HNL : Hid ((needsR (rulesOf L) t).length ≤ 2000) := Lib.hid (by
            have h := needsR_len (l := rulesOf L) (fun r hr => (rlE_ok (HOK.out r hr)).2.1) t (rulesOf L).length
            rw [List.take_length, HRL.out] at h
            omega)
          have hj1 : (j : Int) < (TT.length : Int) := by omega
          generalize hbt : (⟨t.toArray⟩ : ByteArray) = bt at *
          have HBT := Lib.hid hbt
          unfold NdPost at CN
          clear ht hbt
          go_wp2_with fail
          refine CN.out.mono ?_
          rintro e w7 ⟨AN, cN, rfl, hown7, hb7⟩
          have HB7 := Lib.hid (below_newL HBQ.out hb7)
          have HO7 := Lib.hid hown7
          have HS7 : Hid (wr.heap.size ≤ w7.heap.size) := Lib.hid hb7.size
          have HOI7 := Lib.hid (HOI.out.below hb7)
          clear hown7 hb7
          by_cases hw : 64 < (needsR (rulesOf L) t).length
          · have HE : Hid (joinE (rulesOf L) = 2) := Lib.hid (HMY.out (.inr (wide_at (by rw [HTT.out]; exact HTJ.out) hw)))
            have hw1 : (64 : Int) < ((needsR (rulesOf L) t).length : Int) := by omega
            clear hw
            generalize (needsR (rulesOf L) t).length = nl at *
            go_wp2_with fail
            go_ret2
            exact jPost_no (by rw [HE.out]; decide) (by rw [HE.out]; rfl) (below_newL HB6.out HB7.out)
          · have hw1 : ¬ (64 : Int) < ((needsR (rulesOf L) t).length : Int) := by omega
            have HWL := Lib.hid hw
            have hba := below_new (Below.refl w7.heap.size w7) (.cells #[.string bt] 9)
            have HB8 := Lib.hid (below_newL HB7.out hba)
            have HOI8 := Lib.hid (HOI7.out.below hba)
            have HP : Hid (RsIn ((some ⟨w7.heap.size, 0, none⟩, 1), (AN, cN), ([t], needsR (rulesOf L) t)) (w7.alloc (.cells #[.string bt] 9))) := Lib.hid (rsIn_one (rd_lit w7 _ #[.string bt] 9 _ rfl (by rw [← HBT.out]; rfl)) ((Rd.of_own HO7.out).below hba) (own_cap HO7.out) HT40.out HN40.out (by have := HNL.out; omega))
            have HFP : Hid (farS ((some ⟨w7.heap.size, 0, none⟩, 1), (AN, cN), ([t], needsR (rulesOf L) t)) (Value.slice AO j cO).ownBlock) := Lib.hid (farS_new HOI.out (fun g off hA _ => by
              injection hA with hA; injection hA with hA _ _
              left
              have h3 := HS7.out
              omega) (fun g off hA _ => .inl (own_ge HO7.out g off hA)))
            have HRO2 : Hid (rulesOf (LO ++ [((some ⟨w7.heap.size, 0, none⟩, 1), (AN, cN), ([t], needsR (rulesOf L) t))]) = (TT.take (j + 1)).map fun t => ([t], needsR (rulesOf L) t)) := Lib.hid (by
              rw [take_snocS HTJ.out, List.map_append, ← HRO.out]
              unfold rulesOf
              rw [List.map_append]
              rfl)
            have HW2 : Hid (∀ t ∈ TT.take (j + 1), (needsR (rulesOf L) t).length ≤ 64) := Lib.hid (fun q hq => by
              rw [take_snocS HTJ.out] at hq
              rcases List.mem_append.1 hq with hq | hq
              · exact HW.out q hq
              · rw [List.mem_singleton.1 hq]; have := HWL.out; omega)
            have HV1 : Hid (Value.slice (some ⟨w7.heap.size, 0, none⟩) 1 1 = rsT ((some ⟨w7.heap.size, 0, none⟩, 1), (AN, cN), ([t], needsR (rulesOf L) t))) := Lib.hid rfl
            have HV2 : Hid (Value.slice AN (needsR (rulesOf L) t).length cN = rsN ((some ⟨w7.heap.size, 0, none⟩, 1), (AN, cN), ([t], needsR (rulesOf L) t))) := Lib.hid rfl
            have HSZ := HB8.out.size
            have HSZ2 := Lib.hid HSZ
            clear hw hba HSZ
            generalize (needsR (rulesOf L) t).length = nl at *
            go_wp2_with (at_builtin; refine wpList_pushRl (w7.alloc (.cells #[.string bt] 9)) _ _ w6.heap.size AO j cO LO ((some ⟨w7.heap.size, 0, none⟩, 1), (AN, cN), ([t], needsR (rulesOf L) t)) _ _ HV1.out HV2.out HOI8.out HSZ2.out (by omega) HP.out HFP.out rfl rfl rfl (by simp [go_sem]) ?_; intro g9 c9 w9 hoi9 hb9)
            exact ⟨⟨j + 1, _, c9, _, rfl, by omega, rfl, HRO2, HW2, Lib.hid hoi9, Lib.hid (HB8.out.trans hb9)⟩, measL hlt⟩
        · obtain rfl : j = TT.length := by omega
          have HWN : Hid (wideB (rulesOf L) = false) := Lib.hid (wide_no (fun t ht => HW.out t (by rw [List.take_length, ← HTT.out]; exact ht)))
          have HE : Hid (joinE (rulesOf L) = 0) := Lib.hid (joinE_ok H100.out HF0.out (by rw [HTT.out]; exact H64.out) HWN.out)
          have HRR : Hid (rulesOf LO = joinR (rulesOf L)) := Lib.hid (by rw [joinR_ok HE.out, HRO.out, List.take_length, HTT.out])
          go_wp2_with fail
          go_ret2
          exact ⟨AO, cO, LO, by rw [HE.out, HOI.out.len]; rfl, HOI.out.all, HRR.out, below_newL HB6.out HBQ.out⟩
end Go.Proofs.Ytoandhhkmkgmaaa
/- What infers, in plain Lean: suffixes, lists of pairs of suffixes, what a name is made of, rules filled with it. No condition. -/
namespace Go.Proofs.Ytoandhhkmkgmaaa
open Go.RowKit

abbrev SufT := List UInt8 × List UInt8
def dotSl (c : UInt8) : Bool := decide (c = 46) || decide (c = 47)
def sufB (s : KeyT) : Bool := (decide (2 ≤ s.length) && decide (s.length ≤ 10)) && (decide (s[0]? = some 46) && (goodName s && !((s.drop 1).any dotSl)))
def infOne (p : List SufT) (x : SufT) : Nat := if (sufB x.1 && sufB x.2) = false then 3 else if x.1 = x.2 ∨ x ∈ p then 6 else 0
def firstI (l : List SufT) : Nat := (((List.range l.length).map fun i => infOne (l.take i) (l.getD i ([], []))).find? (· != 0)).getD 0
def infE (l : List SufT) : Nat := if 20 < l.length then 2 else firstI l
theorem getD_some {α : Type} {l : List α} {i : Nat} {x d : α} (h : l[i]? = some x) : l.getD i d = x := by simp [List.getD, h]
theorem firstI_no {l : List SufT} (h : ∀ (j : Nat) (y : SufT), l[j]? = some y → infOne (l.take j) y = 0) : firstI l = 0 := by
  unfold firstI
  rw [List.find?_eq_none.2]
  · rfl
  · intro v hv
    obtain ⟨i, hi, rfl⟩ := List.mem_map.1 hv
    have hi := List.mem_range.1 hi
    rw [getD_some (List.getElem?_eq_getElem hi), h i _ (List.getElem?_eq_getElem hi)]
    simp
theorem firstI_at {l : List SufT} {k : Nat} {x : SufT} (hk : l[k]? = some x) (h : ∀ (j : Nat) (y : SufT), j < k → l[j]? = some y → infOne (l.take j) y = 0) (hx : infOne (l.take k) x ≠ 0) : firstI l = infOne (l.take k) x := by
  unfold firstI
  have hlt := (List.getElem?_eq_some_iff.1 hk).1
  have e : List.range l.length = List.range k ++ k :: (List.range (l.length - k - 1)).map (fun j => k + 1 + j) := by
    have e1 : l.length = k + (1 + (l.length - k - 1)) := by omega
    conv => lhs; rw [e1, List.range_add, List.range_add]
    simp [Nat.add_assoc]
  rw [e, List.map_append, List.find?_append]
  have e2 : ((List.range k).map fun i => infOne (l.take i) (l.getD i ([], []))).find? (· != 0) = none := by
    rw [List.find?_eq_none]
    intro v hv
    obtain ⟨i, hi, rfl⟩ := List.mem_map.1 hv
    have hi := List.mem_range.1 hi
    have hil : i < l.length := by omega
    rw [getD_some (List.getElem?_eq_getElem hil), h i _ hi (List.getElem?_eq_getElem hil)]
    simp
  rw [e2, List.map_cons, List.find?_cons_of_pos (by rw [getD_some hk]; simpa using hx), getD_some hk]
  rfl
theorem infE_big {l : List SufT} (h : 20 < l.length) : infE l = 2 := if_pos h
theorem infE_at {l : List SufT} (h20 : ¬ 20 < l.length) {k : Nat} {x : SufT} (hk : l[k]? = some x) (h : ∀ (j : Nat) (y : SufT), j < k → l[j]? = some y → infOne (l.take j) y = 0) (hx : infOne (l.take k) x ≠ 0) : infE l = infOne (l.take k) x := by
  unfold infE
  rw [if_neg h20, firstI_at hk h hx]
theorem infE_no {l : List SufT} (h20 : ¬ 20 < l.length) (h : ∀ (j : Nat) (y : SufT), l[j]? = some y → infOne (l.take j) y = 0) : infE l = 0 := by
  unfold infE
  rw [if_neg h20, firstI_no h]
theorem infE_ok {l : List SufT} (h : infE l = 0) : ¬ 20 < l.length ∧ ∀ x ∈ l, sufB x.1 = true ∧ sufB x.2 = true := by
  unfold infE at h
  split at h
  · cases h
  · rename_i h20
    refine ⟨h20, fun x hx => ?_⟩
    obtain ⟨k, hk⟩ := List.mem_iff_getElem?.1 hx
    have key : ∀ n, ∀ (j : Nat) (y : SufT), j < n → l[j]? = some y → infOne (l.take j) y = 0 := by
      intro n
      induction n with
      | zero => intro j y hj; omega
      | succ n ih =>
        intro j y hj hy
        by_cases hjn : j < n
        · exact ih j y hjn hy
        · obtain rfl : j = n := by omega
          by_cases h0 : infOne (l.take j) y = 0
          · exact h0
          · have := firstI_at hy ih h0
            omega
    have h0 := key (k + 1) k x (by omega) hk
    unfold infOne at h0
    split at h0
    · cases h0
    · rename_i hs
      simpa using hs
theorem sufB_len {s : KeyT} (h : sufB s = true) : s.length ≤ 10 := by
  unfold sufB at h
  simp at h
  exact h.1.2
/-! ### A name's stem -/
theorem cut_one {s : KeyT} {i j : Nat} (h1 : Cut s i) (h2 : Cut s j) : i = j := by
  rcases Nat.lt_trichotomy i j with h | h | h
  · exact absurd h2.2.1 (h1.2.2.1 j h).1
  · exact h
  · exact absurd h1.2.1 (h2.2.2.1 i h).1
open Classical in
noncomputable def stemP (s : KeyT) : KeyT × KeyT := if h : ∃ i, Cut s i then (s.take h.choose, s.drop h.choose) else (s, [])
theorem stemP_cut {s : KeyT} {i : Nat} (h : Cut s i) : stemP s = (s.take i, s.drop i) := by
  have hx : ∃ i, Cut s i := ⟨i, h⟩
  unfold stemP
  rw [dif_pos hx, cut_one hx.choose_spec h]
theorem stemP_no {s : KeyT} (h : ∀ i, ¬ Cut s i) : stemP s = (s, []) := by
  unfold stemP
  rw [dif_neg (fun ⟨i, hi⟩ => h i hi)]
theorem stemP_len (s : KeyT) : (stemP s).1.length ≤ s.length ∧ (stemP s).2.length ≤ s.length := by
  by_cases h : ∃ i, Cut s i
  · obtain ⟨i, hi⟩ := h
    rw [stemP_cut hi]
    simp only [List.length_take, List.length_drop]
    omega
  · rw [stemP_no (fun i hi => h ⟨i, hi⟩)]
    simp
theorem nStem_any (s : KeyT) (w : World) (hl : s.length < 4611686018427387904) :
    Calls Try.prog 67 #[sv s] w fun e w' => e = .returned (.tuple #[sv (stemP s).1, sv (stemP s).2]) ∧ Below w.heap.size w w' := by
  by_cases h : ∃ i, Cut s i
  · obtain ⟨i, hi⟩ := h
    rw [stemP_cut hi]
    exact stem_cut s w hl hi
  · rw [stemP_no (fun i hi => h ⟨i, hi⟩)]
    exact stem_no s w hl (fun i hi => h ⟨i, hi⟩)
theorem rStemP_any (s : KeyT) (w : World) (hl : s.length < 4611686018427387904) :
    Calls Try.prog 55 #[sv s] w fun e w' => e = .returned (.tuple #[sv (stemP s).1, sv (stemP s).2]) ∧ Below w.heap.size w w' := by
  refine (rStem_any s w hl).mono ?_
  rintro e w' ⟨h, hb⟩
  rcases h with ⟨i, hi, rfl⟩ | ⟨hno, rfl⟩
  · exact ⟨by rw [stemP_cut hi], hb⟩
  · exact ⟨by rw [stemP_no hno], hb⟩
/-! ### What a name is made of -/
def ofHit (there : List KeyT) (st : KeyT × KeyT) (x : SufT) : Bool := decide (x.2 = st.2) && inL there (st.1 ++ x.1)
noncomputable def ofP (l : List SufT) (there : List KeyT) (s : KeyT) : Option KeyT := (l.find? (ofHit there (stemP s))).map fun x => (stemP s).1 ++ x.1
theorem ofP_at {l : List SufT} {there : List KeyT} {s : KeyT} {k : Nat} {x : SufT} (hk : l[k]? = some x) (h : ∀ (j : Nat) (y : SufT), j < k → l[j]? = some y → ofHit there (stemP s) y = false) (hx : ofHit there (stemP s) x = true) : ofP l there s = some ((stemP s).1 ++ x.1) := by
  unfold ofP
  have e : l = l.take k ++ x :: l.drop (k + 1) := by
    have hlt := (List.getElem?_eq_some_iff.1 hk).1
    rw [show x = l[k] from (List.getElem?_eq_some_iff.1 hk).2.symm, ← List.drop_eq_getElem_cons hlt, List.take_append_drop]
  rw [e, List.find?_append, List.find?_eq_none.2, Option.none_or, List.find?_cons_of_pos hx]
  · rfl
  · intro y hy
    obtain ⟨j, hj⟩ := List.mem_iff_getElem?.1 hy
    rw [List.getElem?_take] at hj
    split at hj
    · rename_i hjk
      simp [h j y hjk hj]
    · cases hj
theorem ofP_no {l : List SufT} {there : List KeyT} {s : KeyT} (h : ∀ (j : Nat) (y : SufT), l[j]? = some y → ofHit there (stemP s) y = false) : ofP l there s = none := by
  unfold ofP
  rw [List.find?_eq_none.2]
  · rfl
  · intro y hy
    obtain ⟨j, hj⟩ := List.mem_iff_getElem?.1 hy
    simp [h j y hj]
theorem ofP_mem {l : List SufT} {there : List KeyT} {s f : KeyT} (h : ofP l there s = some f) : f ∈ there := by
  unfold ofP at h
  obtain ⟨x, hx, rfl⟩ := Option.map_eq_some_iff.1 h
  have := List.find?_some hx
  unfold ofHit inL at this
  simp at this
  exact this.2
theorem ofP_len {l : List SufT} {there : List KeyT} {s f : KeyT} (h : ofP l there s = some f) (ht : ∀ t ∈ there, t.length ≤ 40) : f.length ≤ 40 := ht _ (ofP_mem h)
theorem ofP_same {l : List SufT} {a b : List KeyT} (h : ∀ x, x ∈ a ↔ x ∈ b) (s : KeyT) : ofP l a s = ofP l b s := by
  unfold ofP
  have e : ofHit a (stemP s) = ofHit b (stemP s) := by
    funext x
    unfold ofHit inL
    simp only [h]
  rw [e]
/-! ### Rules, filled -/
def askedP (all : List RuleT) : List KeyT := all.flatMap fun r => r.1 ++ r.2
def saidP (all : List RuleT) (there : List KeyT) : List KeyT := rising (there ++ askedP all)
theorem said_swap (all : List RuleT) (there : List KeyT) : rising (rising (askedP all) ++ there) = saidP all there :=
  up_unique (rising_up _) (rising_up _) (fun x => by
    unfold saidP
    rw [mem_rising, mem_rising, List.mem_append, List.mem_append, mem_rising]
    exact Or.comm)
noncomputable def needF (l : List SufT) (all : List RuleT) (known : List KeyT) (s : KeyT) : List KeyT := if needsR all s = [] then (ofP l known s).toList else needsR all s
noncomputable def isF (l : List SufT) (all : List RuleT) (known : List KeyT) (s : KeyT) : Bool := (all.any fun x => decide (x.1.headD [] = s)) || (decide (needsR all s = []) && (ofP l known s).isSome)
noncomputable def fillP (l : List SufT) (all : List RuleT) (known : List KeyT) : List RuleT := ((rising (askedP all)).filter (isF l all known)).map fun s => ([s], needF l all known s)
noncomputable def fillE (r : List RuleT) (l : List SufT) (there : List KeyT) : Nat := if joinE r ≠ 0 then joinE r else if infE l ≠ 0 then infE l else if there.all goodName = false then 3 else if 64 < (saidP (joinR r) there).length then 2 else 0
noncomputable def fillR (r : List RuleT) (l : List SufT) (there : List KeyT) : List RuleT := if fillE r l there = 0 then fillP l (joinR r) (saidP (joinR r) there) else []
theorem fillE_join {r : List RuleT} {l : List SufT} {there : List KeyT} (h : joinE r ≠ 0) : fillE r l there = joinE r := if_pos h
theorem fillE_inf {r : List RuleT} {l : List SufT} {there : List KeyT} (h : joinE r = 0) (h2 : infE l ≠ 0) : fillE r l there = infE l := by unfold fillE; rw [if_neg (by rw [h]; simp), if_pos h2]
theorem fillE_name {r : List RuleT} {l : List SufT} {there : List KeyT} (h : joinE r = 0) (h2 : infE l = 0) (h3 : there.all goodName = false) : fillE r l there = 3 := by unfold fillE; rw [if_neg (by rw [h]; simp), if_neg (by rw [h2]; simp), if_pos h3]
theorem fillE_wide {r : List RuleT} {l : List SufT} {there : List KeyT} (h : joinE r = 0) (h2 : infE l = 0) (h3 : there.all goodName = true) (h4 : 64 < (saidP (joinR r) there).length) : fillE r l there = 2 := by unfold fillE; rw [if_neg (by rw [h]; simp), if_neg (by rw [h2]; simp), if_neg (by rw [h3]; simp), if_pos h4]
theorem fillE_ok {r : List RuleT} {l : List SufT} {there : List KeyT} (h : joinE r = 0) (h2 : infE l = 0) (h3 : there.all goodName = true) (h4 : ¬ 64 < (saidP (joinR r) there).length) : fillE r l there = 0 := by unfold fillE; rw [if_neg (by rw [h]; simp), if_neg (by rw [h2]; simp), if_neg (by rw [h3]; simp), if_neg h4]
theorem fillR_ok {r : List RuleT} {l : List SufT} {there : List KeyT} (h : fillE r l there = 0) : fillR r l there = fillP l (joinR r) (saidP (joinR r) there) := if_pos h
theorem fillR_no {r : List RuleT} {l : List SufT} {there : List KeyT} (h : fillE r l there ≠ 0) : fillR r l there = [] := if_neg h
/-- Rules with one target each, all different: as joined ones are. -/
structure OneEach (all : List RuleT) : Prop where
  one : ∀ r ∈ all, ∃ t, r.1 = [t]
  diff : (all.map fun r => r.1.headD []).Nodup
  nd : ∀ r ∈ all, r.2.Nodup
theorem addAll_nodup : ∀ (ns o : List KeyT), (o ++ ns).Nodup → addAll o ns = o ++ ns
  | [], o, _ => by simp [addAll]
  | n :: ns, o, h => by
    have hn : n ∉ o := fun hm => by
      rw [List.nodup_append] at h
      exact h.2.2 n hm n (List.mem_cons_self ..) rfl
    show addAll (addU o n) ns = _
    rw [show addU o n = o ++ [n] by unfold addU; rw [if_neg hn], addAll_nodup ns (o ++ [n]) (by simpa using h)]
    simp
theorem addU_nodup {o : List KeyT} {n : KeyT} (h : o.Nodup) : (addU o n).Nodup := by
  unfold addU
  split
  · exact h
  · rename_i hn
    exact nodup_snoc.2 ⟨h, hn⟩
theorem addAll_nd : ∀ (ns o : List KeyT), o.Nodup → (addAll o ns).Nodup
  | [], _, h => h
  | n :: ns, o, h => addAll_nd ns (addU o n) (addU_nodup h)
theorem needsR_nd (l : List RuleT) (t : KeyT) : (needsR l t).Nodup := by
  unfold needsR
  have key : ∀ (l : List RuleT) (o : List KeyT), o.Nodup → (l.foldl (fun o r => if t ∈ r.1 then addAll o r.2 else o) o).Nodup := by
    intro l
    induction l with
    | nil => intro o h; exact h
    | cons r l ih =>
      intro o h
      rw [List.foldl_cons]
      refine ih _ ?_
      split
      · exact addAll_nd _ _ h
      · exact h
  exact key l [] List.nodup_nil
theorem joinR_one (r : List RuleT) : OneEach (joinR r) := by
  unfold joinR
  split
  · refine ⟨fun x hx => ?_, ?_, fun x hx => ?_⟩
    · obtain ⟨t, _, rfl⟩ := List.mem_map.1 hx; exact ⟨t, rfl⟩
    · rw [List.map_map]
      show ((tgtsR r).map fun t => t).Nodup
      rw [List.map_id']
      exact up_nodup (rising_up _)
    · obtain ⟨t, _, rfl⟩ := List.mem_map.1 hx; exact needsR_nd r t
  · exact ⟨(fun x hx => by cases hx), List.nodup_nil, (fun x hx => by cases hx)⟩
theorem needsR_out {all : List RuleT} {s : KeyT} (h : ∀ r ∈ all, s ∉ r.1) : needsR all s = [] := by
  unfold needsR
  have key : ∀ (l : List RuleT) (o : List KeyT), (∀ r ∈ l, s ∉ r.1) → l.foldl (fun o r => if s ∈ r.1 then addAll o r.2 else o) o = o := by
    intro l
    induction l with
    | nil => intro o _; rfl
    | cons r l ih =>
      intro o h
      rw [List.foldl_cons, if_neg (h r (List.mem_cons_self ..))]
      exact ih o (fun q hq => h q (List.mem_cons_of_mem _ hq))
  exact key all [] h
theorem needsR_in {all : List RuleT} (h : OneEach all) {r : RuleT} (hr : r ∈ all) {t : KeyT} (ht : r.1 = [t]) : needsR all t = r.2 := by
  obtain ⟨a, b, rfl⟩ := List.append_of_mem hr
  have hd := h.diff
  rw [List.map_append, List.map_cons, List.nodup_append] at hd
  obtain ⟨_, hd2, hd3⟩ := hd
  have hd4 := (List.nodup_cons.1 hd2).1
  have ht0 : r.1.headD [] = t := by rw [ht]; rfl
  have ha : ∀ q ∈ a, t ∉ q.1 := fun q hq hm => by
    obtain ⟨u, hu⟩ := h.one q (List.mem_append_left _ hq)
    rw [hu, List.mem_singleton] at hm
    exact hd3 (q.1.headD []) (List.mem_map.2 ⟨q, hq, rfl⟩) (r.1.headD []) (List.mem_cons_self ..) (by rw [hu, ht0, hm]; rfl)
  have hb : ∀ q ∈ b, t ∉ q.1 := fun q hq hm => by
    obtain ⟨u, hu⟩ := h.one q (List.mem_append_right _ (List.mem_cons_of_mem _ hq))
    rw [hu, List.mem_singleton] at hm
    exact hd4 (List.mem_map.2 ⟨q, hq, by rw [hu, ht0, hm]; rfl⟩)
  have h1 := needsR_out ha
  have key : ∀ (l : List RuleT) (o : List KeyT), (∀ r ∈ l, t ∉ r.1) → l.foldl (fun o r => if t ∈ r.1 then addAll o r.2 else o) o = o := by
    intro l
    induction l with
    | nil => intro o _; rfl
    | cons r l ih =>
      intro o h
      rw [List.foldl_cons, if_neg (h r (List.mem_cons_self ..))]
      exact ih o (fun q hq => h q (List.mem_cons_of_mem _ hq))
  unfold needsR at h1 ⊢
  rw [List.foldl_append, h1, List.foldl_cons, if_pos (by rw [ht]; exact List.mem_singleton_self _), key b _ hb, addAll_nodup r.2 [] (by simpa using h.nd r hr)]
  rfl
theorem heads_mem {all : List RuleT} {s : KeyT} : s ∈ (all.map fun r => r.1.headD []) ↔ (all.any fun x => decide (x.1.headD [] = s)) = true := by
  rw [List.mem_map, List.any_eq_true]
  simp
theorem askedP_len {all : List RuleT} (h : all.length ≤ 64) (h2 : ∀ r ∈ all, r.1.length + r.2.length ≤ 65) : (askedP all).length ≤ 4160 := by
  have key : ∀ l : List RuleT, (∀ r ∈ l, r.1.length + r.2.length ≤ 65) → (askedP l).length ≤ 65 * l.length := by
    intro l
    induction l with
    | nil => intro _; simp [askedP]
    | cons r l ih =>
      intro hl
      have := ih (fun q hq => hl q (List.mem_cons_of_mem _ hq))
      have h3 := hl r (List.mem_cons_self ..)
      unfold askedP at this ⊢
      rw [List.flatMap_cons, List.length_append, List.length_append, List.length_cons]
      omega
  have := key all h2
  omega
theorem askedP_snoc (all : List RuleT) (r : RuleT) : askedP (all ++ [r]) = askedP all ++ (r.1 ++ r.2) := by unfold askedP; rw [List.flatMap_append]; simp
end Go.Proofs.Ytoandhhkmkgmaaa

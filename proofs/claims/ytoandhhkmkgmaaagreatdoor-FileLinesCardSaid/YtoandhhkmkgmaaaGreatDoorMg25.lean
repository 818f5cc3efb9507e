/- Some of the proof's texts, merged; each one's own words stand ahead of it. -/
import Derived.Test.YtoandhhkmkgmaaaGreatDoorMg24
import Derived.Test.YtoandhhkmkgmaaaGreatDoorMg8
import Derived.Deep.RegionHeld3
import Derived.Test.YtoandhhkmkgmaaaGreatDoorMg23
/- Slices of rules, read and made; contract: the reference's SameRules at rules that are the same. Lists below 2^63. -/
namespace Go.Proofs.YtoandhhkmkgmaaaGreatDoor
open Go.RowKit

/-- A rule as it lies: where its targets lie and their room, where its needs lie and their room, the rule. -/
abbrev RSlot := (Option Addr × Nat) × (Option Addr × Nat) × RuleT
def rsT (x : RSlot) : Value := .slice x.1.1 x.2.2.1.length x.1.2
def rsN (x : RSlot) : Value := .slice x.2.1.1 x.2.2.2.length x.2.1.2
def rsV (L : List RSlot) : List Value := L.flatMap fun x => [rsT x, rsN x]
def rulesOf (L : List RSlot) : List RuleT := L.map (·.2.2)
def RsIn (x : RSlot) (w : World) : Prop := RlIn x.1.1 x.2.2.1.length x.1.2 x.2.1.1 x.2.2.2.length x.2.1.2 x.2.2 w
theorem rsV_snoc (L : List RSlot) (x : RSlot) : rsV (L ++ [x]) = rsV L ++ [rsT x, rsN x] := by unfold rsV; rw [List.flatMap_append]; simp
structure RsAll (A : Option Addr) (L : List RSlot) (w : World) : Prop where
  rd : Rd w A (rsV L)
  each : ∀ x ∈ L, RsIn x w
theorem RsAll.below {A : Option Addr} {L : List RSlot} {w w' : World} (h : RsAll A L w) (hb : Below w.heap.size w w') : RsAll A L w' := ⟨h.rd.below hb, fun x hx => (h.each x hx).below hb⟩
theorem RsAll.nil (A : Option Addr) (w : World) : RsAll A [] w := ⟨Rd.nil_ _ _, fun x hx => by cases hx⟩
theorem rlInfo : ∃ i, Tryz.prog.info? 78 = some i ∧ i.zero = some (.agg #[.slice none 0 0, .slice none 0 0]) ∧ i.size = 2 ∧ i.bytes = 48 := by
  have h : (Tryz.prog.info? 78).map (fun i => (i.zero, i.size, i.bytes)) = some (some (.agg #[.slice none 0 0, .slice none 0 0]), 2, 48) := by kernel_rfl
  cases hi : Tryz.prog.info? 78 with
  | none => rw [hi] at h; cases h
  | some i =>
    rw [hi] at h
    simp at h
    exact ⟨i, rfl, h⟩
/-- A slot's lists lie in no block of that name. -/
def farS (x : RSlot) (ob : Option Nat) : Prop :=
  (∀ g off, x.1.1 = some ⟨g, off, none⟩ → 0 < (x.2.2.1.map sv).length → some g ≠ ob) ∧ (∀ g off, x.2.1.1 = some ⟨g, off, none⟩ → 0 < (x.2.2.2.map sv).length → some g ≠ ob)
structure OutInv (w : World) (B : Nat) (A : Option Addr) (n c : Nat) (L : List RSlot) : Prop where
  own : w.ownsRow B 78 2 (.slice A n c) n (rsV L)
  len : L.length = n
  each : ∀ x ∈ L, RsIn x w
  far : ∀ x ∈ L, farS x (Value.slice A n c).ownBlock
theorem OutInv.start (w : World) (B : Nat) : OutInv w B none 0 0 [] := ⟨World.ownsRow_nil _ _ _ _, rfl, (fun x hx => by cases hx), (fun x hx => by cases hx)⟩
theorem OutInv.below {w w' : World} {B : Nat} {A : Option Addr} {n c : Nat} {L : List RSlot} (h : OutInv w B A n c L) (hb : Below w.heap.size w w') : OutInv w' B A n c L :=
  ⟨own_belowL h.own hb, h.len, fun x hx => (h.each x hx).below hb, h.far⟩
theorem OutInv.all {w : World} {B : Nat} {A : Option Addr} {n c : Nat} {L : List RSlot} (h : OutInv w B A n c L) : RsAll A L w := ⟨Rd.own2 h.own, h.each⟩
theorem rd_grown {w w' : World} {A : Option Addr} {xs : List Value} {o : Obj} {row : Option Nat} (h : Rd w A xs) (hg : (w.alloc o).grownBy w' row) (hn : ∀ g off, A = some ⟨g, off, none⟩ → 0 < xs.length → some g ≠ row) : Rd w' A xs := fun hp => by
  obtain ⟨g, off, hA, hlt, hc⟩ := h hp
  have e : w'.heap[g]? = w.heap[g]? := by
    rw [hg.block g (by simp; omega) (hn g off hA hp), Below.heap_alloc _ _ _ hlt]
  have hl : g < w'.heap.size := by
    have := hg.size
    simp at this
    omega
  exact ⟨g, off, hA, hl, fun k u hk => by rw [World.cell?_of_block (w := w) e]; exact hc k u hk⟩
theorem RlIn.grown {A1 A2 : Option Addr} {n1 c1 n2 c2 : Nat} {r : RuleT} {w w' : World} {o : Obj} {row : Option Nat} (h : RlIn A1 n1 c1 A2 n2 c2 r w) (hg : (w.alloc o).grownBy w' row)
    (h1 : ∀ g off, A1 = some ⟨g, off, none⟩ → 0 < (r.1.map sv).length → some g ≠ row) (h2 : ∀ g off, A2 = some ⟨g, off, none⟩ → 0 < (r.2.map sv).length → some g ≠ row) : RlIn A1 n1 c1 A2 n2 c2 r w' :=
  ⟨rd_grown h.t hg h1, rd_grown h.n hg h2, h.tl, h.nl, h.tb, h.nb, h.tc, h.nc, h.ts, h.ns⟩
theorem far_new {x : RSlot} {w : World} {ob ob' : Option Nat} (h : RsIn x w) (hf : farS x ob) (hat : ob' = ob ∨ ob' = some (w.heap.size + 1)) : farS x ob' := by
  rcases hat with rfl | rfl
  · exact hf
  · refine ⟨fun g off hA hp e => ?_, fun g off hA hp e => ?_⟩
    · obtain ⟨g', off', hA', hlt, _⟩ := h.t hp
      rw [hA] at hA'
      injection hA' with hA'
      injection hA' with hA' _ _
      injection e with e
      omega
    · obtain ⟨g', off', hA', hlt, _⟩ := h.n hp
      rw [hA] at hA'
      injection hA' with hA'
      injection hA' with hA' _ _
      injection e with e
      omega
/-- 'append(out, x)', out the call's own, x a rule. -/
theorem wpList_pushRl {ops : Array Oper} {rest : List Oper} {o : Oper} {a : Act} {Q : Exit → Act → World → Prop} (wr : World) (s x : Operand) (B : Nat) (A : Option Addr) (n c : Nat) (L : List RSlot) (p : RSlot) (v1 v2 : Value) (hv1 : v1 = rsT p) (hv2 : v2 = rsN p)
    (hO : OutInv wr B A n c L) (hB : B ≤ wr.heap.size) (hn : (n + 1) * 48 ≤ 140737488355328) (hp : RsIn p wr) (hf : farS p (Value.slice A n c).ownBlock)
    (hgd : o.guard = none) (ho : o.op = .call { callee := .builtin .append, args := #[s, x], argTypes := #[25, 25] })
    (hs : a.eval s = .slice A n c) (hx : a.eval x = .slice (some ⟨wr.heap.size, 0, none⟩) 1 1)
    (h : ∀ g c' w', OutInv w' B (some ⟨g, 0, none⟩) (n + 1) c' (L ++ [p]) → Below B wr w' → wpList Tryz.prog ops Q rest (a.put o.dst (.slice (some ⟨g, 0, none⟩) (n + 1) c')) w') :
    wpList Tryz.prog ops Q (o :: rest) a (wr.alloc (.cells #[v1, v2] 78)) := by
  subst hv1 hv2
  obtain ⟨i, hi, hz, h1, hb⟩ := rlInfo
  have ht : Tryz.prog.underlying 25 = some (.slice 78) := by kernel_rfl
  have hB' : B ≤ (wr.alloc (.cells #[rsT p, rsN p] 78)).heap.size := by simp; omega
  refine wpList_append_own_at _ hgd s x 25 ho B 78 i _ 2 48 ht hi hz h1 hb rfl (by decide) (.slice A n c) n (rsV L) hs (hO.own.alloc _) ⟨wr.heap.size, 0, none⟩ 1 1 [rsT p, rsN p] hx rfl ?_ (by intro u hu; simp at hu; rcases hu with rfl | rfl <;> rfl) (by unfold maxLen; omega) hn hB' ?_
  · intro j u hj
    rw [Addr.add_lit, World.cell?_alloc_at _ _ _ _ rfl, Nat.zero_add]
    simpa using hj
  · intro v' w' hown' hg hnil hor
    have hne : v' ≠ .slice none 0 0 := fun e => by have := (hnil.1 e).2; omega
    rcases hown'.2 with ⟨h', _⟩ | ⟨g, cap, cur, h', _⟩
    · exact absurd h' hne
    · subst h'
      have e : (wr.alloc (.cells #[rsT p, rsN p] 78)).heap.size = wr.heap.size + 1 := by simp
      rw [e] at hor
      have hall : ∀ y ∈ L ++ [p], RsIn y wr ∧ farS y (Value.slice A n c).ownBlock := fun y hy => by
        rcases List.mem_append.1 hy with hy | hy
        · exact ⟨hO.each y hy, hO.far y hy⟩
        · rw [List.mem_singleton.1 hy]; exact ⟨hp, hf⟩
      refine h g cap w' ⟨by rw [rsV_snoc]; exact hown', by rw [List.length_append, hO.len]; rfl, fun y hy => ?_, fun y hy => ?_⟩ ?_
      · exact RlIn.grown (hall y hy).1 hg (hall y hy).2.1 (hall y hy).2.2
      · exact far_new (hall y hy).1 (hall y hy).2 hor
      · exact ((Below.refl B wr).alloc hB _).grown hg hB' (fun k hk => (hO.own.lt k hk).1)
/-! ### The same rules -/
structure RdTwo (x : RSlot) (w : World) : Prop where
  t : Rd w x.1.1 (x.2.2.1.map sv)
  n : Rd w x.2.1.1 (x.2.2.2.map sv)
  tb : x.2.2.1.length ≤ 9223372036854775807
  nb : x.2.2.2.length ≤ 9223372036854775807
theorem RdTwo.below {x : RSlot} {w w' : World} (h : RdTwo x w) (hb : Below w.heap.size w w') : RdTwo x w' := ⟨h.t.below hb, h.n.below hb, h.tb, h.nb⟩
structure RsRd (A : Option Addr) (L : List RSlot) (w : World) : Prop where
  rd : Rd w A (rsV L)
  each : ∀ x ∈ L, RdTwo x w
theorem RsAll.two {A : Option Addr} {L : List RSlot} {w : World} (h : RsAll A L w) : RsRd A L w := ⟨h.rd, fun x hx => ⟨(h.each x hx).t, (h.each x hx).n, (h.each x hx).tb, (h.each x hx).nb⟩⟩
set_option maxRecDepth 100000 in
set_option maxHeartbeats 1000000 in
theorem sameTextsR_any {A B : Option Addr} {n c d : Nat} (l : List (List UInt8)) (w : World) (hr : Rd w A (l.map sv)) (hr2 : Rd w B (l.map sv)) (hn : l.length = n) (hb : n ≤ 9223372036854775807) :
    Calls Tryz.prog 45 #[.slice A n c, .slice B n d] w fun e w' => e = .returned (.bool true) ∧ Below w.heap.size w w' := by
  have HR := Lib.hid hr
  have HR2 := Lib.hid hr2
  have HN := Lib.hid hn
  have hz : ((n : Int) != (n : Int)) = false := by simp
  clear hr hr2 hn
  go_enter Tryz.func45, Tryz.ntmps45
  go_wp2_with fail
  go_loopw [5, 13] (fun _ i wr => ∃ k q : Nat, k ≤ n ∧ i = .int .i64 (k : Int) ∧ wr = w.drewN q) (fun _ i _ => n - (intOf i).toNat)
  case atStart => exact ⟨0, 0, by omega, rfl, rfl⟩
  case round =>
    obtain ⟨k, q, hk, rfl, rfl⟩ := hrel
    by_cases hlt : k < n
    · obtain ⟨x, hx⟩ : ∃ x, l[k]? = some x := ⟨_, List.getElem?_eq_getElem (by rw [HN.out]; exact hlt)⟩
      obtain ⟨b1, o1, rfl, e1⟩ := HR.out.scell hx
      obtain ⟨b2, o2, rfl, e2⟩ := HR2.out.scell hx
      generalize (⟨x.toArray⟩ : ByteArray) = bx at e1 e2
      have k0 : (0 : Int) ≤ (k : Int) := by omega
      have k1 : (k : Int) < (n : Int) := by omega
      clear hx
      go_wp2_with fail
      go_quiet (fail)
      go_wp2_with fail
      go_roundw
      case rel => exact ⟨k + 1, _, by omega, by go_num, rfl⟩
      case measure => simp [intOf]; omega
    · obtain rfl : k = n := by omega
      go_wp2_with fail
      go_ret
      exact ⟨rfl, below_of_drewN _ _⟩
set_option maxRecDepth 100000 in
set_option maxHeartbeats 4000000 in
theorem sameRules_any {A B : Option Addr} {n c d : Nat} (L1 L2 : List RSlot) (w : World) (h1 : RsRd A L1 w) (h2 : RsRd B L2 w) (he : rulesOf L1 = rulesOf L2) (hn1 : L1.length = n) (hb : n ≤ 9223372036854775807) :
    Calls Tryz.prog 46 #[.slice A n c, .slice B n d] w fun e w' => e = .returned (.bool true) ∧ Below w.heap.size w w' := by
  have H1 := Lib.hid h1
  have H2 := Lib.hid h2
  have HN := Lib.hid hn1
  have HN2 : Hid (L2.length = n) := Lib.hid (by have := congrArg List.length he; unfold rulesOf at this; simpa [hn1] using this.symm)
  have HE := Lib.hid he
  have hz : ((n : Int) != (n : Int)) = false := by simp
  clear h1 h2 hn1 he
  go_enter Tryz.func46, Tryz.ntmps46
  go_wp2_with fail
  go_loopw [5, 13] (fun _ i wr => ∃ k : Nat, k ≤ n ∧ i = .int .i64 (k : Int) ∧ Hid (Below w.heap.size w wr)) (fun _ i _ => n - (intOf i).toNat)
  case atStart => exact ⟨0, by omega, rfl, Lib.hid (Below.refl _ _)⟩
  case round =>
    obtain ⟨k, hk, rfl, HB⟩ := hrel
    by_cases hlt : k < n
    · obtain ⟨x, hx⟩ : ∃ x, L1[k]? = some x := ⟨_, List.getElem?_eq_getElem (by rw [HN.out]; exact hlt)⟩
      obtain ⟨y, hy⟩ : ∃ y, L2[k]? = some y := ⟨_, List.getElem?_eq_getElem (by rw [HN2.out]; exact hlt)⟩
      have hxy : x.2.2 = y.2.2 := by
        have e1 : (rulesOf L1)[k]? = some x.2.2 := by unfold rulesOf; rw [List.getElem?_map, hx]; rfl
        have e2 : (rulesOf L2)[k]? = some y.2.2 := by unfold rulesOf; rw [List.getElem?_map, hy]; rfl
        rw [HE.out, e2] at e1
        injection e1 with e1
        exact e1.symm
      have HX := Lib.hid (H1.out.each x (List.mem_of_getElem? hx))
      have HY := Lib.hid (H2.out.each y (List.mem_of_getElem? hy))
      obtain ⟨b1, o1, rfl, a1, a2⟩ := (H1.out.rd.below HB.out).two hx
      obtain ⟨b2, o2, rfl, d1, d2⟩ := (H2.out.rd.below HB.out).two hy
      obtain ⟨⟨X1, xc1⟩, ⟨X2, xc2⟩, r⟩ := x
      obtain ⟨⟨Y1, yc1⟩, ⟨Y2, yc2⟩, r'⟩ := y
      simp only [] at hxy
      subst hxy
      have hcap : 2 * k = k * 2 := by omega
      rw [hcap] at a1 a2 d1 d2
      simp only [rsT, rsN] at a1 a2 d1 d2
      have CT := Lib.hid (fun W (hW : Below w.heap.size w W) => sameTextsR_any (c := xc1) (d := yc1) r.1 W (HX.out.t.below hW) (HY.out.t.below hW) rfl HX.out.tb)
      have CN := Lib.hid (fun W (hW : Below w.heap.size w W) => sameTextsR_any (c := xc2) (d := yc2) r.2 W (HX.out.n.below hW) (HY.out.n.below hW) rfl HX.out.nb)
      clear hx hy hcap HX HY
      have HSL := Lib.hid (fun W (hW : Below wr.heap.size wr W) => (⟨cell_kept a1 hW, cell_kept a2 hW, cell_kept d1 hW, cell_kept d2 hW, hW⟩ : W.cell? ⟨b1, o1 + k * 2, none⟩ = some (.slice X1 r.1.length xc1) ∧ W.cell? ⟨b1, o1 + k * 2 + 1, none⟩ = some (.slice X2 r.2.length xc2) ∧ W.cell? ⟨b2, o2 + k * 2, none⟩ = some (.slice Y1 r.1.length yc1) ∧ W.cell? ⟨b2, o2 + k * 2 + 1, none⟩ = some (.slice Y2 r.2.length yc2) ∧ Below wr.heap.size wr W))
      generalize r.1.length = n1 at *
      generalize r.2.length = n2 at *
      have k0 : (0 : Int) ≤ (k : Int) := by omega
      have k1 : (k : Int) < (n : Int) := by omega
      have b0 := Below.refl wr.heap.size wr
      have bd : Below wr.heap.size wr wr.drew := Below.drew b0
      go_wp2_with fail
      go_region_held3 (fun W => W.cell? ⟨b1, o1 + k * 2, none⟩ = some (.slice X1 n1 xc1) ∧ W.cell? ⟨b1, o1 + k * 2 + 1, none⟩ = some (.slice X2 n2 xc2) ∧ W.cell? ⟨b2, o2 + k * 2, none⟩ = some (.slice Y1 n1 yc1) ∧ W.cell? ⟨b2, o2 + k * 2 + 1, none⟩ = some (.slice Y2 n2 yc2) ∧ Below wr.heap.size wr W)
        ((refine HSL.out _ ?_; first | assumption | exact Below.drew (by assumption)))
        ((first
          | (go_at_call 45; (with_reducible refine (CT.out _ (below_then HB.out (by assumption))).mono ?_); rintro e u1 ⟨rfl, h1⟩; have bu1 := below_then (by assumption) h1)
          | (go_at_call 45; (with_reducible refine (CN.out _ (below_then HB.out (by assumption))).mono ?_); rintro e u2 ⟨rfl, h2⟩; have bu2 := below_then (by assumption) h2)))
      have HB2 := Lib.hid (below_then HB.out bu2)
      clear a1 a2 d1 d2 b0 bd HSL CT CN
      rename_i hHeld
      clear hHeld
      clear h1 h2 bu1 bu2
      go_wp2_with fail
      go_roundw
      case rel => exact ⟨k + 1, by omega, by go_num, HB2⟩
      case measure => simp [intOf]; omega
    · obtain rfl : k = n := by omega
      go_wp2_with fail
      go_ret
      exact ⟨rfl, HB.out⟩
end Go.Proofs.YtoandhhkmkgmaaaGreatDoor
/- A box of slices of the call's own, and rules whose lists lie elsewhere. -/
namespace Go.Proofs.YtoandhhkmkgmaaaGreatDoor
open Go.RowKit

/-- A slice of the call's own, as it is to lie: its elements' type and their cells, the slice, its length, its cells. -/
structure RowF where
  t : TypeId
  z : Nat
  v : Value
  n : Nat
  xs : List Value
structure RowsAt (lo B : Nat) (T : TypeId) (rows : List RowF) (L : List RSlot) (W : World) : Prop where
  blo : B < lo
  box : Blk W B T (rows.map (·.v))
  own : ∀ r ∈ rows, W.ownsRow lo r.t r.z r.v r.n r.xs
  apart : ∀ (i j : Nat) (r s : RowF) (g : Nat), rows[i]? = some r → rows[j]? = some s → i ≠ j → r.v.ownBlock = some g → s.v.ownBlock ≠ some g
  each : ∀ x ∈ L, RsIn x W
  far : ∀ x ∈ L, ∀ r ∈ rows, farS x r.v.ownBlock
  farB : ∀ x ∈ L, farS x (some B)
  top : lo ≤ W.heap.size
theorem rd_set {w : World} {A : Option Addr} {xs : List Value} {B j : Nat} (u : Value) (h : Rd w A xs) (hn : ∀ g off, A = some ⟨g, off, none⟩ → 0 < xs.length → some g ≠ some B) : Rd (w.setCell ⟨B, j, none⟩ u) A xs := fun hp => by
  obtain ⟨g, off, hA, hlt, hc⟩ := h hp
  have e : (w.setCell ⟨B, j, none⟩ u).heap[g]? = w.heap[g]? := Below.heap_setCell _ _ _ _ (fun e => hn g off hA hp (by rw [e]))
  exact ⟨g, off, hA, by simpa using hlt, fun k v hk => by rw [World.cell?_of_block (w := w) e]; exact hc k v hk⟩
theorem RsIn.setB {x : RSlot} {w : World} {B j : Nat} (u : Value) (h : RsIn x w) (hf : farS x (some B)) : RsIn x (w.setCell ⟨B, j, none⟩ u) :=
  ⟨rd_set u h.t hf.1, rd_set u h.n hf.2, h.tl, h.nl, h.tb, h.nb, h.tc, h.nc, h.ts, h.ns⟩
section
variable {lo B : Nat} {T : TypeId} {rows : List RowF} {L : List RSlot} {W W' : World}
theorem RowsAt.below (h : RowsAt lo B T rows L W) (hb : Below W.heap.size W W') : RowsAt lo B T rows L W' :=
  ⟨h.blo, h.box.below hb h.box.lt, fun r hr => own_belowK (h.own r hr) hb, h.apart, fun x hx => (h.each x hx).below hb, h.far, h.farB, Nat.le_trans h.top hb.size⟩
theorem RowsAt.grow (h : RowsAt lo B T rows L W) {k : Nat} {r r' : RowF} (hk : rows[k]? = some r) {o : Obj} (hg : (W.alloc o).grownBy W' r.v.ownBlock) (hown : W'.ownsRow lo r'.t r'.z r'.v r'.n r'.xs)
    (hat : r'.v.ownBlock = r.v.ownBlock ∨ r'.v.ownBlock = some (W.heap.size + 1)) {N : List RSlot} (hN : ∀ x ∈ N, RsIn x W ∧ (∀ r ∈ rows, farS x r.v.ownBlock) ∧ farS x (some B)) :
    RowsAt lo B T (rows.set k r') (L ++ N) (W'.setCell ⟨B, k, none⟩ r'.v) := by
  have hrm : r ∈ rows := List.mem_of_getElem? hk
  have hkl : k < rows.length := (List.getElem?_eq_some_iff.1 hk).1
  have hset : ∀ (j : Nat) (s : RowF), (rows.set k r')[j]? = some s → (j = k ∧ s = r') ∨ (j ≠ k ∧ rows[j]? = some s) := fun j s hs => by
    by_cases e : j = k
    · subst e
      rw [List.getElem?_set_self hkl] at hs
      exact .inl ⟨rfl, (Option.some.inj hs).symm⟩
    · rw [List.getElem?_set_ne (fun q => e q.symm)] at hs
      exact .inr ⟨e, hs⟩
  have hmem : ∀ s ∈ rows.set k r', s = r' ∨ ∃ j, j ≠ k ∧ rows[j]? = some s := fun s hs => by
    obtain ⟨j, hj⟩ := List.getElem?_of_mem hs
    rcases hset j s hj with ⟨_, e⟩ | ⟨e, e2⟩
    · exact .inl e
    · exact .inr ⟨j, e, e2⟩
  have hBr : some B ≠ r.v.ownBlock := fun e => by have := own_lo (h.own r hrm) B e.symm; have := h.blo; omega
  have hall : ∀ x ∈ L ++ N, RsIn x W ∧ (∀ r ∈ rows, farS x r.v.ownBlock) ∧ farS x (some B) := fun x hx => by
    rcases List.mem_append.1 hx with hx | hx
    · exact ⟨h.each x hx, h.far x hx, h.farB x hx⟩
    · exact hN x hx
  have hbox : Blk W' B T (rows.map (·.v)) := by
    unfold Blk
    rw [hg.block B (by simp; have := h.box.lt; omega) hBr, Below.heap_alloc _ _ _ h.box.lt]
    exact h.box
  refine ⟨h.blo, ?_, ?_, ?_, ?_, ?_, fun x hx => (hall x hx).2.2, ?_⟩
  · rw [List.map_set]
    exact hbox.same k _
  · intro s hs
    rcases hmem s hs with rfl | ⟨j, hj, hs2⟩
    · exact own_setB hown h.blo _
    · exact own_setB (own_gr ((h.own s (List.mem_of_getElem? hs2)).alloc _) hg fun g hg' e => h.apart k j r s g hk hs2 (fun q => hj q.symm) e hg') h.blo _
  · intro i j a b g ha hb hij hga hgb
    rcases hset i a ha with ⟨rfl, rfl⟩ | ⟨hi, ha2⟩ <;> rcases hset j b hb with ⟨hj, hb'⟩ | ⟨hj, hb2⟩
    · exact hij hj.symm
    · rcases hat with hat | hat
      · rw [hat] at hga
        exact h.apart i j r b g hk hb2 hij hga hgb
      · rw [hat] at hga
        have := ((h.own b (List.mem_of_getElem? hb2)).lt g hgb).2
        injection hga with hga
        omega
    · subst hj hb'
      rcases hat with hat | hat
      · rw [hat] at hgb
        exact h.apart i j a r g ha2 hk hij hga hgb
      · rw [hat] at hgb
        have := ((h.own a (List.mem_of_getElem? ha2)).lt g hga).2
        injection hgb with hgb
        omega
    · exact h.apart i j a b g ha2 hb2 hij hga hgb
  · intro x hx
    have hx' := hall x hx
    exact RsIn.setB _ (RlIn.grown hx'.1 hg (hx'.2.1 r hrm).1 (hx'.2.1 r hrm).2) hx'.2.2
  · intro x hx s hs
    have hx' := hall x hx
    rcases hmem s hs with rfl | ⟨j, hj, hs2⟩
    · exact far_new hx'.1 (hx'.2.1 r hrm) hat
    · exact hx'.2.1 s (List.mem_of_getElem? hs2)
  · have h1 := hg.size
    have h2 := h.top
    simp at h1
    simp
    omega
end
end Go.Proofs.YtoandhhkmkgmaaaGreatDoor

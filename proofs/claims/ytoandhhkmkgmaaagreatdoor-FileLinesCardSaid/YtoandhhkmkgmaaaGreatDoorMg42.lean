/- Some of the proof's texts, merged; each one's own words stand ahead of it. -/
import Derived.Test.YtoandhhkmkgmaaaGreatDoorMg40
import Derived.Test.YtoandhhkmkgmaaaGreatDoorRegX
import Derived.Deep.AppendLies
import Derived.Test.YtoandhhkmkgmaaaGreatDoorMg22
import Derived.Defers
import Derived.Test.YtoandhhkmkgmaaaGreatDoorMg12
import Derived.Test.YtoandhhkmkgmaaaGreatDoorQuiet
import Derived.BigQuiet
import Derived.Deep.RegionHeld3
import Derived.Deep.QuietTactic
import Derived.Test.YtoandhhkmkgmaaaGreatDoorMg9
/- file.add at a rule that is kept. -/
namespace Go.Proofs.YtoandhhkmkgmaaaGreatDoor
open Go.RowKit

theorem addP_rule {f : FileT} {r : RuleT} (h : phonyW ∉ r.1) (h2 : pairP (r.1.headD []) = none ∨ ¬ (r.1.length = 1 ∧ r.2.length = 0)) : addP f r = (if 100 < f.rul.length + 1 then 2 else 0, { f with rul := f.rul ++ [r] }) := by
  unfold addP
  rw [if_neg h]
  cases hp : pairP (r.1.headD []) with
  | none => rfl
  | some p =>
    rcases h2 with h2 | h2
    · rw [hp] at h2; cases h2
    · dsimp only; rw [if_neg h2]
/-- 'f.x = append(f.x, u)' in a drawn region: the append. -/
theorem step_pushF {ops : Array Oper} {o : Oper} {a : Act} {K : Act → World → Prop} {Q : Exit → Act → World → Prop} {F : Prop} (W : World) (s x : Operand) {lo B : Nat} {T : TypeId} {rows : List RowF} {L : List RSlot} (h : RowsAt lo B T rows L W) (k : Nat) {t e : TypeId} {z bytes : Nat} (E : ElF t e z bytes)
    (A : Option Addr) (n c : Nat) (xs : List Value) (hk : rows[k]? = some ⟨e, z, .slice A n c, n, xs⟩) (us : Array Value) (hul : us.size = z) (hu : ∀ u ∈ us.toList, u.oneCell' = true) (hn : (n + 1) * bytes ≤ 140737488355328) (hn' : n + 1 ≤ 140737488355328)
    {N : List RSlot} (hN : ∀ x ∈ N, RsIn x W ∧ (∀ r ∈ rows, farS x r.v.ownBlock) ∧ farS x (some B))
    (hgd : o.guard = none) (ho : o.op = .call { callee := .builtin .append, args := #[s, x], argTypes := #[t, t] })
    (hs : a.eval s = .slice A n c) (hx : a.eval x = .slice (some ⟨W.heap.size, 0, none⟩) 1 1)
    (hc : ∀ g c' w', Blk w' B T (rows.map (·.v)) → (W.alloc (.cells us e)).grownBy w' (Value.slice A n c).ownBlock → RowsAt lo B T (rows.set k ⟨e, z, .slice (some ⟨g, 0, none⟩) (n + 1) c', n + 1, xs ++ us.toList⟩) (L ++ N) (w'.setCell ⟨B, k, none⟩ (.slice (some ⟨g, 0, none⟩) (n + 1) c')) → ButLo lo B W (w'.setCell ⟨B, k, none⟩ (.slice (some ⟨g, 0, none⟩) (n + 1) c')) →
      K (a.put o.dst (.slice (some ⟨g, 0, none⟩) (n + 1) c')) w') :
    if Region.wanted o (yielded ops a.tmps) = true then Oper.wp Tryz.prog o a (W.alloc (.cells us e)) K Q else F := by
  obtain ⟨ht, ⟨i, v, hi, hz, h1, hb, hzs⟩, hp⟩ := E
  have hr := h.own _ (List.mem_of_getElem? hk)
  dsimp only at hr
  have htop := h.top
  have hB' : lo ≤ (W.alloc (.cells us e)).heap.size := by simp; omega
  have e1 : (W.alloc (.cells us e)).heap.size = W.heap.size + 1 := by simp
  refine step_append_lies _ hgd s x t ho lo e i v z bytes ht hi hz h1 hb hzs hp (.slice A n c) n xs hs (hr.alloc _) ⟨W.heap.size, 0, none⟩ 1 1 us.toList hx (by simp [hul]) ?_ hu (by decide) (by unfold maxLen; omega) hn hB' _ e1 ?_
  · intro j y hj
    rw [Addr.add_lit, World.cell?_alloc_at _ _ _ _ rfl, Nat.zero_add]
    simpa using hj
  · intro g cap w' hown' hg hor _
    have hor2 : (Value.slice (some ⟨g, 0, none⟩) (n + 1) cap).ownBlock = (Value.slice A n c).ownBlock ∨ (Value.slice (some ⟨g, 0, none⟩) (n + 1) cap).ownBlock = some (W.heap.size + 1) := by
      rcases hor with q | q
      · exact .inl (by rw [q]; rfl)
      · exact .inr (by rw [q]; rfl)
    refine hc g cap w' ?_ hg ?_ ?_
    · unfold Blk
      have hBr : some B ≠ (Value.slice A n c).ownBlock := fun e => by have := own_lo hr B e.symm; have := h.blo; omega
      rw [hg.block B (by simp; have := h.box.lt; omega) hBr, Below.heap_alloc _ _ _ h.box.lt]
      exact h.box
    · exact h.grow (r' := ⟨e, z, .slice (some ⟨g, 0, none⟩) (n + 1) cap, n + 1, xs ++ us.toList⟩) hk hg hown' hor2 hN
    · exact (((ButLo.refl lo B W).below (below_new (Below.refl W.heap.size W) (.cells us e)) htop).grown hg (own_lo hr) hB').set _
theorem rowsF_rule {f : FileT} {L : List RSlot} {v0 v1 v2 u1 u2 : Value} {A : Option Addr} {n c g c' : Nat} {x : RSlot} {R : List RuleT} (hn : L.length = n) (h1 : rsT x = u1) (h2 : rsN x = u2) :
    (rowsF f L v0 v1 v2 (.slice A n c)).set 3 ⟨78, 2, .slice (some ⟨g, 0, none⟩) (n + 1) c', n + 1, rsV L ++ [u1, u2]⟩ = rowsF { f with rul := R } (L ++ [x]) v0 v1 v2 (.slice (some ⟨g, 0, none⟩) (n + 1) c') := by
  subst h1 h2
  unfold rowsF
  simp [rsV_snoc, hn]
theorem cell_allocF {w : World} {B o : Nat} {v : Value} (h : w.cell? ⟨B, o, none⟩ = some v) (ob : Obj) : (w.alloc ob).cell? ⟨B, o, none⟩ = some v := (World.cell?_of_block (Below.heap_alloc _ _ _ (lt_of_cell' h))).trans h
theorem ButLo.drew {lo B : Nat} {W W' : World} (h : ButLo lo B W W') : ButLo lo B W W'.drew := ⟨h.os, h.tape, h.output, h.size, h.block⟩
theorem RowsAt.drew {lo B : Nat} {T : TypeId} {rows : List RowF} {L : List RSlot} {W : World} (h : RowsAt lo B T rows L W) : RowsAt lo B T rows L W.drew := h.below (Below.drew (Below.refl _ _))
section
variable {lo B : Nat} {f : FileT} {L : List RSlot} {v0 v1 v2 v3 : Value} {W : World} (h : RowsAt lo B 27 (rowsF f L v0 v1 v2 v3) L W) (hL : rulesOf L = f.rul)
  {x : RSlot} (hx : RsIn x W) (hf : ∀ r ∈ rowsF f L v0 v1 v2 v3, farS x r.v.ownBlock) (hfB : farS x (some B))
include h hL hx hf hfB
set_option maxRecDepth 100000 in
set_option maxHeartbeats 4000000 in
theorem fAdd_rule (hr100 : f.rul.length ≤ 100) (hph : phonyW ∉ x.2.2.1) {t0 : List UInt8} (ht0 : x.2.2.1[0]? = some t0) (ht0l : t0.length ≤ 1048576) (h2 : pairP t0 = none ∨ ¬ (x.2.2.1.length = 1 ∧ x.2.2.2.length = 0))
    (mx : Int) (hmx : W.cell? ⟨1, 0, none⟩ = some (.int .i64 mx)) (h0 : 1 < W.heap.size) : Calls Tryz.prog 38 #[.pointer (some ⟨B, 0, none⟩), .agg #[rsT x, rsN x]] W (AddPost lo B f L x W) := by
  have HB0 := Lib.hid (below_new (Below.refl W.heap.size W) (.cells #[rsT x, rsN x] 78))
  have HR0 := Lib.hid ((h.with hx hf hfB).below HB0.out)
  have HK0 := Lib.hid (Blk.new W #[rsT x, rsN x] 78)
  have HBW0 := Lib.hid ((ButLo.refl lo B W).below HB0.out h.top)
  have HL := Lib.hid hL
  have HX0 := Lib.hid (HR0.out.each x (by simp))
  have HR100 := Lib.hid hr100
  have HV3 : Hid (∀ g, v3.ownBlock = some g → g < W.heap.size) := Lib.hid (fun g hg => ((h.own ⟨78, 2, v3, L.length, rsV L⟩ (by unfold rowsF; simp)).lt g hg).2)
  have CT := Lib.hid (slContains_any (c := x.1.2) x.2.2.1 phonyW _ HX0.out.t rfl HX0.out.tb)
  have htr : inL x.2.2.1 phonyW = false := by unfold inL; exact decide_eq_false hph
  rw [htr, show (⟨phonyW.toArray⟩ : ByteArray) = ⟨#[46, 80, 72, 79, 78, 89]⟩ from rfl] at CT
  have HC0 := Lib.hid (Rd.scell HX0.out.t ht0)
  have HCP := Lib.hid (fun W' (hb : Below W.heap.size W W') => (show Calls Tryz.prog 85 #[.string ⟨t0.toArray⟩] W' (PairPost t0 W') from fPair_any t0 ht0l mx W' (cell_belowF hmx h0 hb) (Nat.lt_of_lt_of_le h0 hb.size)))
  have HE : Hid (addP f x.2.2 = (if 100 < f.rul.length + 1 then 2 else 0, { f with rul := f.rul ++ [x.2.2] })) := Lib.hid (addP_rule hph (by
    have e : x.2.2.1.headD [] = t0 := by
      cases hh : x.2.2.1 with
      | nil => rw [hh] at ht0; cases ht0
      | cons a l => rw [hh] at ht0; injection ht0
    rw [e]; exact h2))
  have HLT := Lib.hid (List.getElem?_eq_some_iff.1 ht0).1
  clear h hL hx hf hfB hr100 hph htr hmx h0 ht0 ht0l
  obtain ⟨⟨X1, xc1⟩, ⟨X2, xc2⟩, ts, ns⟩ := x
  simp only [rsT, rsN] at *
  obtain ⟨tl, htl⟩ : ∃ tl, ts.length = tl := ⟨_, rfl⟩
  obtain ⟨nl, hnl⟩ : ∃ nl, ns.length = nl := ⟨_, rfl⟩
  have HTL := Lib.hid htl
  have HNL := Lib.hid hnl
  have htl1 : 0 < tl := by rw [← htl]; exact HLT.out
  simp only [htl, hnl] at HK0 CT HR0 HBW0 HX0 HB0 HC0 h2 ⊢
  obtain ⟨tb, tq, rfl, hc0⟩ := HC0.out
  clear HC0
  simp only [Nat.add_zero] at hc0
  generalize hW0 : W.alloc (.cells #[.slice (some ⟨tb, tq, none⟩) tl xc1, .slice X2 nl xc2] 78) = W0 at *
  have HW0 := Lib.hid hW0
  have y0 : W0.cell? ⟨W.heap.size, 0, none⟩ = some (.slice (some ⟨tb, tq, none⟩) tl xc1) := HK0.out.cell (j := 0) rfl
  have y1 : W0.cell? ⟨W.heap.size, 1, none⟩ = some (.slice X2 nl xc2) := HK0.out.cell (j := 1) rfl
  clear hW0 htl hnl
  go_enter Tryz.func38, Tryz.ntmps38
  go_upto_region 1 with fail
  rw [HW0.out]
  generalize hk0 : W.heap.size = k0 at *
  have HK00 := Lib.hid hk0
  clear hk0
  go_wp2_with fail
  refine CT.out.mono ?_
  rintro e w1 ⟨rfl, rfl⟩
  go_wp2_with fail
  refine (HCP.out _ HB0.out).mono ?_
  rintro e w1 ⟨hb1, pa, pb, hab, rfl⟩
  have HB1 := Lib.hid (HB0.out.trans (hb1.mono (Nat.le_of_lt HK0.out.lt)))
  have HR1 := Lib.hid (HR0.out.below hb1)
  have HBW1 := Lib.hid (HBW0.out.below hb1 HR0.out.top)
  have HK1 := Lib.hid (HK0.out.below hb1 HK0.out.lt)
  obtain ⟨ba, hba⟩ : ∃ ba, sv pa = .string ba := ⟨_, rfl⟩
  obtain ⟨bb, hbb⟩ : ∃ bb, sv pb = .string bb := ⟨_, rfl⟩
  rw [hba, hbb]
  clear hb1 hab hba hbb
  go_upto_region 14 with fail
  have hb2 : Below w1.heap.size w1 (w1.alloc (.cells #[.string ba, .string bb] 85)) := below_new (Below.refl w1.heap.size w1) _
  have HR2 := Lib.hid ((HR1.out.below hb2).drew)
  have HBW2 := Lib.hid ((HBW1.out.below hb2 HR1.out.top).drew)
  have HK2 := Lib.hid (HK1.out.below hb2 HK1.out.lt)
  clear hb2 HR1 HBW1 HK1 HB1 CT HCP HR0 HBW0 HX0 HK0 HB0 y0 y1 hc0
  generalize w1.alloc (.cells #[.string ba, .string bb] 85) = w2 at *
  generalize w1.heap.size = k7 at *
  obtain ⟨A3, c3, hv3⟩ := slice_ofF (HR2.out.own ⟨78, 2, v3, L.length, rsV L⟩ (by unfold rowsF; simp))
  dsimp only at hv3
  subst hv3
  have y0 : w2.cell? ⟨k0, 0, none⟩ = some (.slice (some ⟨tb, tq, none⟩) tl xc1) := HK2.out.cell (j := 0) rfl
  have y1 : w2.cell? ⟨k0, 1, none⟩ = some (.slice X2 nl xc2) := HK2.out.cell (j := 1) rfl
  have m3 : w2.cell? ⟨B, 3, none⟩ = some (.slice A3 L.length c3) := HR2.out.box.cell (j := 3) rfl
  have HLE : Hid (L.length = f.rul.length) := Lib.hid (by rw [← HL.out]; unfold rulesOf; simp)
  obtain ⟨n3, hn3⟩ : ∃ n3, L.length = n3 := ⟨_, rfl⟩
  have HN3 := Lib.hid hn3
  rw [hn3] at m3 HLE HR2 HV3
  have hn100 : n3 ≤ 100 := by rw [HLE.out]; exact HR100.out
  have HRK : Hid ((rowsF f L v0 v1 v2 (.slice A3 n3 c3))[3]? = some ⟨78, 2, .slice A3 n3 c3, n3, rsV L⟩) := Lib.hid (by unfold rowsF; simp [HN3.out])
  have HVB : Hid (some k0 ≠ (Value.slice A3 n3 c3).ownBlock) := Lib.hid (fun e => by have := HV3.out k0 (e ▸ rfl); omega)
  have HSS : Hid (w2.drew.cell? ⟨B, 3, none⟩ = some (.slice A3 n3 c3) ∧ w2.drew.cell? ⟨k0, 0, none⟩ = some (.slice (some ⟨tb, tq, none⟩) tl xc1) ∧ w2.drew.cell? ⟨k0, 1, none⟩ = some (.slice X2 nl xc2)) := Lib.hid ⟨m3, y0, y1⟩
  have HSA : Hid ((w2.drew.alloc (.cells #[.slice (some ⟨tb, tq, none⟩) tl xc1, .slice X2 nl xc2] 78)).cell? ⟨B, 3, none⟩ = some (.slice A3 n3 c3) ∧ (w2.drew.alloc (.cells #[.slice (some ⟨tb, tq, none⟩) tl xc1, .slice X2 nl xc2] 78)).cell? ⟨k0, 0, none⟩ = some (.slice (some ⟨tb, tq, none⟩) tl xc1) ∧ (w2.drew.alloc (.cells #[.slice (some ⟨tb, tq, none⟩) tl xc1, .slice X2 nl xc2] 78)).cell? ⟨k0, 1, none⟩ = some (.slice X2 nl xc2)) := Lib.hid ⟨cell_allocF (w := w2.drew) m3 _, cell_allocF (w := w2.drew) y0 _, cell_allocF (w := w2.drew) y1 _⟩
  have HKS : Hid (∀ w9, (w2.drew.alloc (.cells #[.slice (some ⟨tb, tq, none⟩) tl xc1, .slice X2 nl xc2] 78)).grownBy w9 (Value.slice A3 n3 c3).ownBlock → w9.cell? ⟨k0, 0, none⟩ = some (.slice (some ⟨tb, tq, none⟩) tl xc1) ∧ w9.cell? ⟨k0, 1, none⟩ = some (.slice X2 nl xc2)) := Lib.hid (fun w9 hg => by
    have hb : w9.heap[k0]? = (w2.drew.alloc (.cells #[.slice (some ⟨tb, tq, none⟩) tl xc1, .slice X2 nl xc2] 78)).heap[k0]? := hg.block k0 (lt_of_cell' HSA.out.2.1) HVB.out
    exact ⟨(World.cell?_of_block hb).trans HSA.out.2.1, (World.cell?_of_block hb).trans HSA.out.2.2⟩)
  clear hn3
  have hcase : (pairP t0).isSome = false ∨ ((pairP t0).isSome = true ∧ ((tl : Int) == 1) = false) ∨ ((pairP t0).isSome = true ∧ ((tl : Int) == 1) = true ∧ ((nl : Int) == 0) = false) := by
    rcases h2 with h2 | h2
    · left; rw [h2]; rfl
    · cases (pairP t0).isSome
      · exact .inl rfl
      · right
        by_cases h1 : tl = 1
        · exact .inr ⟨rfl, by simp [h1], by simp; omega⟩
        · exact .inl ⟨rfl, by simp; omega⟩
  clear h2
  generalize (pairP t0).isSome = ps at *
  rcases hcase with rfl | ⟨rfl, q1⟩ | ⟨rfl, q1, q2⟩
  · go_upto_region 18 with fail
    refine wp_region_x (fun W => W.cell? ⟨B, 3, none⟩ = some (.slice A3 n3 c3) ∧ W.cell? ⟨k0, 0, none⟩ = some (.slice (some ⟨tb, tq, none⟩) tl xc1) ∧ W.cell? ⟨k0, 1, none⟩ = some (.slice X2 nl xc2)) 10 (by kernel_rfl) ?_
    refine wpAnyX_take (i := 0) (v := ?v0a) rfl (by kernel_rfl) (by kernel_rfl) (by kernel_rfl) (by kernel_rfl) (fun _ _ _ h => h) (Or.inl ⟨by rfl, ?hy0a⟩) HSS.out ?rest0a
    case hy0a => (intro W hSw; (try dsimp only at hSw); obtain ⟨hS1, hS2, hS3⟩ := hSw; go_simp; try with_reducible rfl)
    refine wpAnyX_take (i := 1) (v := ?v1a) rfl (by kernel_rfl) (by kernel_rfl) (by kernel_rfl) (by kernel_rfl) (fun _ _ _ h => h) (Or.inl ⟨by rfl, ?hy1a⟩) HSS.out ?rest1a
    case hy1a => (intro W hSw; (try dsimp only at hSw); obtain ⟨hS1, hS2, hS3⟩ := hSw; go_simp; try with_reducible rfl)
    refine wpAnyX_take (i := 2) (v := ?v2a) rfl (by kernel_rfl) (by kernel_rfl) (by kernel_rfl) (by kernel_rfl) (fun _ _ _ h => h) (Or.inl ⟨by rfl, ?hy2a⟩) HSS.out ?rest2a
    case hy2a => (intro W hSw; (try dsimp only at hSw); obtain ⟨hS1, hS2, hS3⟩ := hSw; go_simp; try with_reducible rfl)
    refine wpAnyX_take (i := 3) (v := ?v3a) rfl (by kernel_rfl) (by kernel_rfl) (by kernel_rfl) (by kernel_rfl) (fun _ _ _ h => h) (Or.inl ⟨by rfl, ?hy3a⟩) HSS.out ?rest3a
    case hy3a => (intro W hSw; (try dsimp only at hSw); obtain ⟨hS1, hS2, hS3⟩ := hSw; go_simp; try with_reducible rfl)
    refine wpAnyX_take (i := 4) (v := ?v4a) rfl (by kernel_rfl) (by kernel_rfl) (by kernel_rfl) (by kernel_rfl) (fun _ _ _ h => h) (Or.inl ⟨by rfl, ?hy4a⟩) HSS.out ?rest4a
    case hy4a => (intro W hSw; (try dsimp only at hSw); obtain ⟨hS1, hS2, hS3⟩ := hSw; go_simp; try with_reducible rfl)
    refine wpAnyX_take (i := 5) (v := ?v5a) rfl (by kernel_rfl) (by kernel_rfl) (by kernel_rfl) (by kernel_rfl) (fun _ _ _ h => h) (Or.inl ⟨by rfl, ?hy5a⟩) HSS.out ?rest5a
    case hy5a => (intro W hSw; (try dsimp only at hSw); obtain ⟨hS1, hS2, hS3⟩ := hSw; go_simp; try with_reducible rfl)
    refine wpAnyX_one (i := 6) (by kernel_rfl) rfl (fun K hK => ?_)
    rw [if_pos (by rfl)]
    go_simp
    refine hK _ _ (fun _ => HSA.out) ?_
    clear hK K
    refine wpAnyX_one (i := 7) (by kernel_rfl) rfl (fun K hK => ?_)
    refine step_pushF w2.drew (.tmp 89) (.tmp 91) HR2.out 3 elRulF A3 n3 c3 (rsV L) HRK.out #[.slice (some ⟨tb, tq, none⟩) tl xc1, .slice X2 nl xc2] rfl (by intro u hu; simp at hu; rcases hu with rfl | rfl <;> rfl) (by omega) (by omega) (N := []) (by simp) rfl rfl (by simp [Act.eval]) (by simp [Act.eval]) ?_
    intro g9 c9 w9 hb9 hg9 hr9 hw9
    have t1 : w9.cell? ⟨B, 3, none⟩ = some (.slice A3 n3 c3) := hb9.cell (j := 3) rfl
    have tf := hb9.free 3
    have HS9 := Lib.hid (show w9.cell? ⟨B, 3, none⟩ = some (.slice A3 n3 c3) ∧ w9.cell? ⟨k0, 0, none⟩ = some (.slice (some ⟨tb, tq, none⟩) tl xc1) ∧ w9.cell? ⟨k0, 1, none⟩ = some (.slice X2 nl xc2) from ⟨t1, HKS.out w9 hg9⟩)
    have HR9 := Lib.hid hr9
    have HW9 := Lib.hid hw9
    clear hb9 hg9 hr9 hw9
    refine hK _ _ (fun _ => HS9.out) ?_
    clear hK K
    refine wpAnyX_one (i := 8) (by kernel_rfl) rfl (fun K hK => ?_)
    rw [if_pos (by rfl)]
    go_simp
    refine hK _ _ (fun _ => HS9.out) ?_
    clear hK K
    refine wpAnyX_take (i := 9) (v := ?v9a) rfl (by kernel_rfl) (by kernel_rfl) (by kernel_rfl) (by kernel_rfl) (fun _ _ _ h => h) (Or.inl ⟨by rfl, ?hy9a⟩) HS9.out ?rest9a
    case hy9a => (intro W hSw; (try dsimp only at hSw); obtain ⟨hS1, hS2, hS3⟩ := hSw; go_simp; try with_reducible rfl)
    refine wpAnyX_one (i := 10) (by kernel_rfl) rfl (fun K hK => ?_)
    rw [if_pos (by rfl)]
    go_simp
    refine hK _ _ (fun h => absurd rfl h) ?_
    clear hK K
    refine wpAnyX_done (by kernel_rfl) ?_ _
    have HQ : Hid (RowsAt lo B 27 (rowsF { f with rul := f.rul ++ [(ts, ns)] } (L ++ [((some ⟨tb, tq, none⟩, xc1), (X2, xc2), ts, ns)]) v0 v1 v2 (.slice (some ⟨g9, 0, none⟩) (n3 + 1) c9)) (L ++ [((some ⟨tb, tq, none⟩, xc1), (X2, xc2), ts, ns)]) (w9.setCell ⟨B, 3, none⟩ (.slice (some ⟨g9, 0, none⟩) (n3 + 1) c9))) := Lib.hid (by
      have hh := HR9.out
      rw [List.append_nil] at hh
      rw [← rowsF_rule (A := A3) (c := c3) HN3.out (u1 := .slice (some ⟨tb, tq, none⟩) tl xc1) (u2 := .slice X2 nl xc2) (by unfold rsT; rw [← HTL.out]) (by unfold rsN; rw [← HNL.out])]
      exact hh)
    have HWQ := Lib.hid (HBW2.out.trans HW9.out)
    have HRU : Hid (rulesOf (L ++ [((some ⟨tb, tq, none⟩, xc1), (X2, xc2), ts, ns)]) = f.rul ++ [(ts, ns)]) := Lib.hid (by rw [← HL.out]; unfold rulesOf; simp)
    have z3 : (w9.setCell ⟨B, 3, none⟩ (.slice (some ⟨g9, 0, none⟩) (n3 + 1) c9)).cell? ⟨B, 3, none⟩ = some (.slice (some ⟨g9, 0, none⟩) (n3 + 1) c9) := HQ.out.box.cell (j := 3) rfl
    clear t1 tf m3 y0 y1 HR9 HW9 HS9 HSA HSS HKS HRK
    generalize w9.setCell ⟨B, 3, none⟩ (.slice (some ⟨g9, 0, none⟩) (n3 + 1) c9) = w10 at *
    have HN4 : Hid (f.rul.length + 1 = n3 + 1) := Lib.hid (by rw [← HLE.out])
    by_cases h100 : 100 < n3 + 1
    · have p1 : decide ((100 : Int) < (n3 : Int) + 1) = true := by simp; omega
      have p2 : (100 : Int) < (n3 : Int) + 1 := by omega
      have HE2 : Hid (addP f (ts, ns) = (2, { f with rul := f.rul ++ [(ts, ns)] })) := Lib.hid (by rw [HE.out, HN4.out, if_pos h100])
      clear h100
      go_wp2_with fail
      go_ret
      exact ⟨_, _, v0, v1, v2, _, by rw [HE2.out]; rfl, by rw [HE2.out], HRU.out, HQ.out, HWQ.out, fun y hy => (List.mem_append.1 hy).imp id (fun h => List.mem_singleton.1 h)⟩
    · have p1 : decide ((100 : Int) < (n3 : Int) + 1) = false := by simp; omega
      have p2 : ¬ (100 : Int) < (n3 : Int) + 1 := by omega
      have HE2 : Hid (addP f (ts, ns) = (0, { f with rul := f.rul ++ [(ts, ns)] })) := Lib.hid (by rw [HE.out, HN4.out, if_neg h100])
      clear h100
      go_wp2_with fail
      go_ret
      exact ⟨_, _, v0, v1, v2, _, by rw [HE2.out]; rfl, by rw [HE2.out], HRU.out, HQ.out, HWQ.out, fun y hy => (List.mem_append.1 hy).imp id (fun h => List.mem_singleton.1 h)⟩
  · go_upto_region 18 with fail
    refine wp_region_x (fun W => W.cell? ⟨B, 3, none⟩ = some (.slice A3 n3 c3) ∧ W.cell? ⟨k0, 0, none⟩ = some (.slice (some ⟨tb, tq, none⟩) tl xc1) ∧ W.cell? ⟨k0, 1, none⟩ = some (.slice X2 nl xc2)) 10 (by kernel_rfl) ?_
    refine wpAnyX_take (i := 0) (v := ?v0b) rfl (by kernel_rfl) (by kernel_rfl) (by kernel_rfl) (by kernel_rfl) (fun _ _ _ h => h) (Or.inl ⟨by rfl, ?hy0b⟩) HSS.out ?rest0b
    case hy0b => (intro W hSw; (try dsimp only at hSw); obtain ⟨hS1, hS2, hS3⟩ := hSw; go_simp; try with_reducible rfl)
    refine wpAnyX_take (i := 1) (v := ?v1b) rfl (by kernel_rfl) (by kernel_rfl) (by kernel_rfl) (by kernel_rfl) (fun _ _ _ h => h) (Or.inl ⟨by rfl, ?hy1b⟩) HSS.out ?rest1b
    case hy1b => (intro W hSw; (try dsimp only at hSw); obtain ⟨hS1, hS2, hS3⟩ := hSw; go_simp; try with_reducible rfl)
    refine wpAnyX_take (i := 2) (v := ?v2b) rfl (by kernel_rfl) (by kernel_rfl) (by kernel_rfl) (by kernel_rfl) (fun _ _ _ h => h) (Or.inl ⟨by rfl, ?hy2b⟩) HSS.out ?rest2b
    case hy2b => (intro W hSw; (try dsimp only at hSw); obtain ⟨hS1, hS2, hS3⟩ := hSw; go_simp; try with_reducible rfl)
    refine wpAnyX_take (i := 3) (v := ?v3b) rfl (by kernel_rfl) (by kernel_rfl) (by kernel_rfl) (by kernel_rfl) (fun _ _ _ h => h) (Or.inl ⟨by rfl, ?hy3b⟩) HSS.out ?rest3b
    case hy3b => (intro W hSw; (try dsimp only at hSw); obtain ⟨hS1, hS2, hS3⟩ := hSw; go_simp; try with_reducible rfl)
    refine wpAnyX_take (i := 4) (v := ?v4b) rfl (by kernel_rfl) (by kernel_rfl) (by kernel_rfl) (by kernel_rfl) (fun _ _ _ h => h) (Or.inl ⟨by rfl, ?hy4b⟩) HSS.out ?rest4b
    case hy4b => (intro W hSw; (try dsimp only at hSw); obtain ⟨hS1, hS2, hS3⟩ := hSw; go_simp; try with_reducible rfl)
    refine wpAnyX_take (i := 5) (v := ?v5b) rfl (by kernel_rfl) (by kernel_rfl) (by kernel_rfl) (by kernel_rfl) (fun _ _ _ h => h) (Or.inl ⟨by rfl, ?hy5b⟩) HSS.out ?rest5b
    case hy5b => (intro W hSw; (try dsimp only at hSw); obtain ⟨hS1, hS2, hS3⟩ := hSw; go_simp; try with_reducible rfl)
    refine wpAnyX_one (i := 6) (by kernel_rfl) rfl (fun K hK => ?_)
    rw [if_pos (by rfl)]
    go_simp
    refine hK _ _ (fun _ => HSA.out) ?_
    clear hK K
    refine wpAnyX_one (i := 7) (by kernel_rfl) rfl (fun K hK => ?_)
    refine step_pushF w2.drew (.tmp 89) (.tmp 91) HR2.out 3 elRulF A3 n3 c3 (rsV L) HRK.out #[.slice (some ⟨tb, tq, none⟩) tl xc1, .slice X2 nl xc2] rfl (by intro u hu; simp at hu; rcases hu with rfl | rfl <;> rfl) (by omega) (by omega) (N := []) (by simp) rfl rfl (by simp [Act.eval]) (by simp [Act.eval]) ?_
    intro g9 c9 w9 hb9 hg9 hr9 hw9
    have t1 : w9.cell? ⟨B, 3, none⟩ = some (.slice A3 n3 c3) := hb9.cell (j := 3) rfl
    have tf := hb9.free 3
    have HS9 := Lib.hid (show w9.cell? ⟨B, 3, none⟩ = some (.slice A3 n3 c3) ∧ w9.cell? ⟨k0, 0, none⟩ = some (.slice (some ⟨tb, tq, none⟩) tl xc1) ∧ w9.cell? ⟨k0, 1, none⟩ = some (.slice X2 nl xc2) from ⟨t1, HKS.out w9 hg9⟩)
    have HR9 := Lib.hid hr9
    have HW9 := Lib.hid hw9
    clear hb9 hg9 hr9 hw9
    refine hK _ _ (fun _ => HS9.out) ?_
    clear hK K
    refine wpAnyX_one (i := 8) (by kernel_rfl) rfl (fun K hK => ?_)
    rw [if_pos (by rfl)]
    go_simp
    refine hK _ _ (fun _ => HS9.out) ?_
    clear hK K
    refine wpAnyX_take (i := 9) (v := ?v9b) rfl (by kernel_rfl) (by kernel_rfl) (by kernel_rfl) (by kernel_rfl) (fun _ _ _ h => h) (Or.inl ⟨by rfl, ?hy9b⟩) HS9.out ?rest9b
    case hy9b => (intro W hSw; (try dsimp only at hSw); obtain ⟨hS1, hS2, hS3⟩ := hSw; go_simp; try with_reducible rfl)
    refine wpAnyX_one (i := 10) (by kernel_rfl) rfl (fun K hK => ?_)
    rw [if_pos (by rfl)]
    go_simp
    refine hK _ _ (fun h => absurd rfl h) ?_
    clear hK K
    refine wpAnyX_done (by kernel_rfl) ?_ _
    have HQ : Hid (RowsAt lo B 27 (rowsF { f with rul := f.rul ++ [(ts, ns)] } (L ++ [((some ⟨tb, tq, none⟩, xc1), (X2, xc2), ts, ns)]) v0 v1 v2 (.slice (some ⟨g9, 0, none⟩) (n3 + 1) c9)) (L ++ [((some ⟨tb, tq, none⟩, xc1), (X2, xc2), ts, ns)]) (w9.setCell ⟨B, 3, none⟩ (.slice (some ⟨g9, 0, none⟩) (n3 + 1) c9))) := Lib.hid (by
      have hh := HR9.out
      rw [List.append_nil] at hh
      rw [← rowsF_rule (A := A3) (c := c3) HN3.out (u1 := .slice (some ⟨tb, tq, none⟩) tl xc1) (u2 := .slice X2 nl xc2) (by unfold rsT; rw [← HTL.out]) (by unfold rsN; rw [← HNL.out])]
      exact hh)
    have HWQ := Lib.hid (HBW2.out.trans HW9.out)
    have HRU : Hid (rulesOf (L ++ [((some ⟨tb, tq, none⟩, xc1), (X2, xc2), ts, ns)]) = f.rul ++ [(ts, ns)]) := Lib.hid (by rw [← HL.out]; unfold rulesOf; simp)
    have z3 : (w9.setCell ⟨B, 3, none⟩ (.slice (some ⟨g9, 0, none⟩) (n3 + 1) c9)).cell? ⟨B, 3, none⟩ = some (.slice (some ⟨g9, 0, none⟩) (n3 + 1) c9) := HQ.out.box.cell (j := 3) rfl
    clear t1 tf m3 y0 y1 HR9 HW9 HS9 HSA HSS HKS HRK
    generalize w9.setCell ⟨B, 3, none⟩ (.slice (some ⟨g9, 0, none⟩) (n3 + 1) c9) = w10 at *
    have HN4 : Hid (f.rul.length + 1 = n3 + 1) := Lib.hid (by rw [← HLE.out])
    by_cases h100 : 100 < n3 + 1
    · have p1 : decide ((100 : Int) < (n3 : Int) + 1) = true := by simp; omega
      have p2 : (100 : Int) < (n3 : Int) + 1 := by omega
      have HE2 : Hid (addP f (ts, ns) = (2, { f with rul := f.rul ++ [(ts, ns)] })) := Lib.hid (by rw [HE.out, HN4.out, if_pos h100])
      clear h100
      go_wp2_with fail
      go_ret
      exact ⟨_, _, v0, v1, v2, _, by rw [HE2.out]; rfl, by rw [HE2.out], HRU.out, HQ.out, HWQ.out, fun y hy => (List.mem_append.1 hy).imp id (fun h => List.mem_singleton.1 h)⟩
    · have p1 : decide ((100 : Int) < (n3 : Int) + 1) = false := by simp; omega
      have p2 : ¬ (100 : Int) < (n3 : Int) + 1 := by omega
      have HE2 : Hid (addP f (ts, ns) = (0, { f with rul := f.rul ++ [(ts, ns)] })) := Lib.hid (by rw [HE.out, HN4.out, if_neg h100])
      clear h100
      go_wp2_with fail
      go_ret
      exact ⟨_, _, v0, v1, v2, _, by rw [HE2.out]; rfl, by rw [HE2.out], HRU.out, HQ.out, HWQ.out, fun y hy => (List.mem_append.1 hy).imp id (fun h => List.mem_singleton.1 h)⟩
  · go_upto_region 18 with fail
    refine wp_region_x (fun W => W.cell? ⟨B, 3, none⟩ = some (.slice A3 n3 c3) ∧ W.cell? ⟨k0, 0, none⟩ = some (.slice (some ⟨tb, tq, none⟩) tl xc1) ∧ W.cell? ⟨k0, 1, none⟩ = some (.slice X2 nl xc2)) 10 (by kernel_rfl) ?_
    refine wpAnyX_take (i := 0) (v := ?v0c) rfl (by kernel_rfl) (by kernel_rfl) (by kernel_rfl) (by kernel_rfl) (fun _ _ _ h => h) (Or.inl ⟨by rfl, ?hy0c⟩) HSS.out ?rest0c
    case hy0c => (intro W hSw; (try dsimp only at hSw); obtain ⟨hS1, hS2, hS3⟩ := hSw; go_simp; try with_reducible rfl)
    refine wpAnyX_take (i := 1) (v := ?v1c) rfl (by kernel_rfl) (by kernel_rfl) (by kernel_rfl) (by kernel_rfl) (fun _ _ _ h => h) (Or.inl ⟨by rfl, ?hy1c⟩) HSS.out ?rest1c
    case hy1c => (intro W hSw; (try dsimp only at hSw); obtain ⟨hS1, hS2, hS3⟩ := hSw; go_simp; try with_reducible rfl)
    refine wpAnyX_take (i := 2) (v := ?v2c) rfl (by kernel_rfl) (by kernel_rfl) (by kernel_rfl) (by kernel_rfl) (fun _ _ _ h => h) (Or.inl ⟨by rfl, ?hy2c⟩) HSS.out ?rest2c
    case hy2c => (intro W hSw; (try dsimp only at hSw); obtain ⟨hS1, hS2, hS3⟩ := hSw; go_simp; try with_reducible rfl)
    refine wpAnyX_take (i := 3) (v := ?v3c) rfl (by kernel_rfl) (by kernel_rfl) (by kernel_rfl) (by kernel_rfl) (fun _ _ _ h => h) (Or.inl ⟨by rfl, ?hy3c⟩) HSS.out ?rest3c
    case hy3c => (intro W hSw; (try dsimp only at hSw); obtain ⟨hS1, hS2, hS3⟩ := hSw; go_simp; try with_reducible rfl)
    refine wpAnyX_take (i := 4) (v := ?v4c) rfl (by kernel_rfl) (by kernel_rfl) (by kernel_rfl) (by kernel_rfl) (fun _ _ _ h => h) (Or.inl ⟨by rfl, ?hy4c⟩) HSS.out ?rest4c
    case hy4c => (intro W hSw; (try dsimp only at hSw); obtain ⟨hS1, hS2, hS3⟩ := hSw; go_simp; try with_reducible rfl)
    refine wpAnyX_take (i := 5) (v := ?v5c) rfl (by kernel_rfl) (by kernel_rfl) (by kernel_rfl) (by kernel_rfl) (fun _ _ _ h => h) (Or.inl ⟨by rfl, ?hy5c⟩) HSS.out ?rest5c
    case hy5c => (intro W hSw; (try dsimp only at hSw); obtain ⟨hS1, hS2, hS3⟩ := hSw; go_simp; try with_reducible rfl)
    refine wpAnyX_one (i := 6) (by kernel_rfl) rfl (fun K hK => ?_)
    rw [if_pos (by rfl)]
    go_simp
    refine hK _ _ (fun _ => HSA.out) ?_
    clear hK K
    refine wpAnyX_one (i := 7) (by kernel_rfl) rfl (fun K hK => ?_)
    refine step_pushF w2.drew (.tmp 89) (.tmp 91) HR2.out 3 elRulF A3 n3 c3 (rsV L) HRK.out #[.slice (some ⟨tb, tq, none⟩) tl xc1, .slice X2 nl xc2] rfl (by intro u hu; simp at hu; rcases hu with rfl | rfl <;> rfl) (by omega) (by omega) (N := []) (by simp) rfl rfl (by simp [Act.eval]) (by simp [Act.eval]) ?_
    intro g9 c9 w9 hb9 hg9 hr9 hw9
    have t1 : w9.cell? ⟨B, 3, none⟩ = some (.slice A3 n3 c3) := hb9.cell (j := 3) rfl
    have tf := hb9.free 3
    have HS9 := Lib.hid (show w9.cell? ⟨B, 3, none⟩ = some (.slice A3 n3 c3) ∧ w9.cell? ⟨k0, 0, none⟩ = some (.slice (some ⟨tb, tq, none⟩) tl xc1) ∧ w9.cell? ⟨k0, 1, none⟩ = some (.slice X2 nl xc2) from ⟨t1, HKS.out w9 hg9⟩)
    have HR9 := Lib.hid hr9
    have HW9 := Lib.hid hw9
    clear hb9 hg9 hr9 hw9
    refine hK _ _ (fun _ => HS9.out) ?_
    clear hK K
    refine wpAnyX_one (i := 8) (by kernel_rfl) rfl (fun K hK => ?_)
    rw [if_pos (by rfl)]
    go_simp
    refine hK _ _ (fun _ => HS9.out) ?_
    clear hK K
    refine wpAnyX_take (i := 9) (v := ?v9c) rfl (by kernel_rfl) (by kernel_rfl) (by kernel_rfl) (by kernel_rfl) (fun _ _ _ h => h) (Or.inl ⟨by rfl, ?hy9c⟩) HS9.out ?rest9c
    case hy9c => (intro W hSw; (try dsimp only at hSw); obtain ⟨hS1, hS2, hS3⟩ := hSw; go_simp; try with_reducible rfl)
    refine wpAnyX_one (i := 10) (by kernel_rfl) rfl (fun K hK => ?_)
    rw [if_pos (by rfl)]
    go_simp
    refine hK _ _ (fun h => absurd rfl h) ?_
    clear hK K
    refine wpAnyX_done (by kernel_rfl) ?_ _
    have HQ : Hid (RowsAt lo B 27 (rowsF { f with rul := f.rul ++ [(ts, ns)] } (L ++ [((some ⟨tb, tq, none⟩, xc1), (X2, xc2), ts, ns)]) v0 v1 v2 (.slice (some ⟨g9, 0, none⟩) (n3 + 1) c9)) (L ++ [((some ⟨tb, tq, none⟩, xc1), (X2, xc2), ts, ns)]) (w9.setCell ⟨B, 3, none⟩ (.slice (some ⟨g9, 0, none⟩) (n3 + 1) c9))) := Lib.hid (by
      have hh := HR9.out
      rw [List.append_nil] at hh
      rw [← rowsF_rule (A := A3) (c := c3) HN3.out (u1 := .slice (some ⟨tb, tq, none⟩) tl xc1) (u2 := .slice X2 nl xc2) (by unfold rsT; rw [← HTL.out]) (by unfold rsN; rw [← HNL.out])]
      exact hh)
    have HWQ := Lib.hid (HBW2.out.trans HW9.out)
    have HRU : Hid (rulesOf (L ++ [((some ⟨tb, tq, none⟩, xc1), (X2, xc2), ts, ns)]) = f.rul ++ [(ts, ns)]) := Lib.hid (by rw [← HL.out]; unfold rulesOf; simp)
    have z3 : (w9.setCell ⟨B, 3, none⟩ (.slice (some ⟨g9, 0, none⟩) (n3 + 1) c9)).cell? ⟨B, 3, none⟩ = some (.slice (some ⟨g9, 0, none⟩) (n3 + 1) c9) := HQ.out.box.cell (j := 3) rfl
    clear t1 tf m3 y0 y1 HR9 HW9 HS9 HSA HSS HKS HRK
    generalize w9.setCell ⟨B, 3, none⟩ (.slice (some ⟨g9, 0, none⟩) (n3 + 1) c9) = w10 at *
    have HN4 : Hid (f.rul.length + 1 = n3 + 1) := Lib.hid (by rw [← HLE.out])
    by_cases h100 : 100 < n3 + 1
    · have p1 : decide ((100 : Int) < (n3 : Int) + 1) = true := by simp; omega
      have p2 : (100 : Int) < (n3 : Int) + 1 := by omega
      have HE2 : Hid (addP f (ts, ns) = (2, { f with rul := f.rul ++ [(ts, ns)] })) := Lib.hid (by rw [HE.out, HN4.out, if_pos h100])
      clear h100
      go_wp2_with fail
      go_ret
      exact ⟨_, _, v0, v1, v2, _, by rw [HE2.out]; rfl, by rw [HE2.out], HRU.out, HQ.out, HWQ.out, fun y hy => (List.mem_append.1 hy).imp id (fun h => List.mem_singleton.1 h)⟩
    · have p1 : decide ((100 : Int) < (n3 : Int) + 1) = false := by simp; omega
      have p2 : ¬ (100 : Int) < (n3 : Int) + 1 := by omega
      have HE2 : Hid (addP f (ts, ns) = (0, { f with rul := f.rul ++ [(ts, ns)] })) := Lib.hid (by rw [HE.out, HN4.out, if_neg h100])
      clear h100
      go_wp2_with fail
      go_ret
      exact ⟨_, _, v0, v1, v2, _, by rw [HE2.out]; rfl, by rw [HE2.out], HRU.out, HQ.out, HWQ.out, fun y hy => (List.mem_append.1 hy).imp id (fun h => List.mem_singleton.1 h)⟩
end
end Go.Proofs.YtoandhhkmkgmaaaGreatDoor
/- The reader of lines in memory: its box, its two slices, its map; what a call leaves alone. -/
namespace Go.Proofs.YtoandhhkmkgmaaaGreatDoor
open Go.RowKit

def txtM (t : List TxtT) : SMapT := t.map fun x => (x.1, sv x.2)
structure RdA (lo B bm : Nat) (t : List TxtT) (op : List (List UInt8)) (m : Nat) (O : List (List UInt8)) (vo vu : Value) (W : World) : Prop where
  blo : B < lo
  mlo : bm < lo
  mb : bm ≠ B
  box : Blk W B 113 [.map (some bm), vo, .int .i64 (m : Int), vu]
  map : MapS W bm (txtM t)
  op : W.ownsRow lo 9 1 vo op.length (op.map sv)
  out : W.ownsRow lo 9 1 vu O.length (O.map sv)
  apart : ∀ g, vo.ownBlock = some g → vu.ownBlock ≠ some g
  top : lo ≤ W.heap.size
/-- A block that a call leaves alone. -/
def Safe (B : Nat) (vo vu : Value) (W : World) (k : Nat) : Prop := k < W.heap.size ∧ k ≠ B ∧ vo.ownBlock ≠ some k ∧ vu.ownBlock ≠ some k
structure Fr (B : Nat) (vo vu : Value) (W : World) (vo' vu' : Value) (W' : World) : Prop where
  os : W'.os = W.os
  tape : W'.tape = W.tape
  output : W'.output = W.output
  size : W.heap.size ≤ W'.heap.size
  block : ∀ k, Safe B vo vu W k → W'.heap[k]? = W.heap[k]?
  vo : vo'.ownBlock = vo.ownBlock ∨ ∀ g, vo'.ownBlock = some g → W.heap.size ≤ g
  vu : vu'.ownBlock = vu.ownBlock ∨ ∀ g, vu'.ownBlock = some g → W.heap.size ≤ g
theorem Rd.lines {w : World} {A : Option Addr} {L : List (Nat × List UInt8)} (h : Rd w A (lnV L)) {i : Nat} {p : Nat × List UInt8} (hi : L[i]? = some p) : ∃ b off, A = some ⟨b, off, none⟩ ∧ w.cell? ⟨b, off + i * 2, none⟩ = some (.int .i64 (p.1 : Int)) ∧ w.cell? ⟨b, off + i * 2 + 1, none⟩ = some (.string ⟨p.2.toArray⟩) := by
  obtain ⟨b, off, h1, h2, h3⟩ := Rd.two h hi
  rw [Nat.mul_comm] at h2 h3
  exact ⟨b, off, h1, h2, h3⟩
section
variable {B : Nat} {vo vu vo' vu' vo'' vu'' : Value} {W W' W'' : World}
theorem Fr.refl (B : Nat) (vo vu : Value) (W : World) : Fr B vo vu W vo vu W := ⟨rfl, rfl, rfl, Nat.le_refl _, fun _ _ => rfl, .inl rfl, .inl rfl⟩
theorem Fr.safe (h : Fr B vo vu W vo' vu' W') {k : Nat} (hs : Safe B vo vu W k) : Safe B vo' vu' W' k := by
  obtain ⟨h1, h2, h3, h4⟩ := hs
  refine ⟨Nat.lt_of_lt_of_le h1 h.size, h2, fun e => ?_, fun e => ?_⟩
  · rcases h.vo with q | q
    · exact h3 (q ▸ e)
    · have := q k e; omega
  · rcases h.vu with q | q
    · exact h4 (q ▸ e)
    · have := q k e; omega
theorem Fr.trans (h : Fr B vo vu W vo' vu' W') (k : Fr B vo' vu' W' vo'' vu'' W'') : Fr B vo vu W vo'' vu'' W'' := by
  refine ⟨k.os.trans h.os, k.tape.trans h.tape, k.output.trans h.output, Nat.le_trans h.size k.size, fun j hj => (k.block j (h.safe hj)).trans (h.block j hj), ?_, ?_⟩
  · rcases k.vo with q | q
    · rcases h.vo with p | p
      · exact .inl (q.trans p)
      · exact .inr fun g hg => p g (q ▸ hg)
    · exact .inr fun g hg => Nat.le_trans h.size (q g hg)
  · rcases k.vu with q | q
    · rcases h.vu with p | p
      · exact .inl (q.trans p)
      · exact .inr fun g hg => p g (q ▸ hg)
    · exact .inr fun g hg => Nat.le_trans h.size (q g hg)
theorem Fr.of_below (h : Below W.heap.size W W') : Fr B vo vu W vo vu W' := ⟨h.os, h.tape, h.output, h.size, fun k hk => h.block k hk.1, .inl rfl, .inl rfl⟩
theorem Fr.below (h : Fr B vo vu W vo' vu' W') (k : Below W'.heap.size W' W'') : Fr B vo vu W vo' vu' W'' := h.trans (Fr.of_below k)
theorem Fr.setB (h : Fr B vo vu W vo' vu' W') (j : Nat) (u : Value) : Fr B vo vu W vo' vu' (W'.setCell ⟨B, j, none⟩ u) := by
  refine ⟨h.os, h.tape, h.output, by simpa using h.size, fun k hk => ?_, h.vo, h.vu⟩
  rw [Below.heap_setCell _ _ _ _ (fun e => hk.2.1 e)]
  exact h.block k hk
theorem Fr.drew (h : Fr B vo vu W vo' vu' W') : Fr B vo vu W vo' vu' W'.drew := ⟨h.os, h.tape, h.output, h.size, h.block, h.vo, h.vu⟩
theorem Fr.drewN (h : Fr B vo vu W vo' vu' W') (n : Nat) : Fr B vo vu W vo' vu' (W'.drewN n) := h.below (below_of_drewN _ _)
theorem Fr.sameVo (h : Fr B vo vu W vo' vu' W') (he : vo''.ownBlock = vo'.ownBlock) : Fr B vo vu W vo'' vu' W' := ⟨h.os, h.tape, h.output, h.size, h.block, by rw [he]; exact h.vo, h.vu⟩
theorem rows_some {b T z n c : Nat} {A : Option Addr} {xs : List Value} (h : W.ownsRow b T z (.slice A (n + 1) c) (n + 1) xs) : ∃ g, A = some ⟨g, 0, none⟩ := by
  rcases h.2 with ⟨_, h⟩ | ⟨g, _, _, h, _⟩
  · omega
  · injection h with h _ _; exact ⟨g, h⟩
theorem Rd.fr {A : Option Addr} {xs : List Value} (h : Rd W A xs) (hf : Fr B vo vu W vo' vu' W') (hs : ∀ g off, A = some ⟨g, off, none⟩ → 0 < xs.length → Safe B vo vu W g) : Rd W' A xs := fun hp => by
  obtain ⟨b, off, hA, hlt, hc⟩ := h hp
  have hb := hf.block b (hs b off hA hp)
  exact ⟨b, off, hA, Nat.lt_of_lt_of_le hlt hf.size, fun j u hu => by rw [World.cell?_of_block hb]; exact hc j u hu⟩
theorem Blk.fr {b : Nat} {t : TypeId} {xs : List Value} (h : Blk W b t xs) (hf : Fr B vo vu W vo' vu' W') (hs : Safe B vo vu W b) : Blk W' b t xs := by
  unfold Blk
  rw [hf.block b hs]
  exact h
end
section
variable {lo B bm : Nat} {t : List TxtT} {op : List (List UInt8)} {m : Nat} {O : List (List UInt8)} {vo vu : Value} {W W' : World}
theorem RdA.vo_lt (h : RdA lo B bm t op m O vo vu W) : ∀ g, vo.ownBlock = some g → lo ≤ g ∧ g < W.heap.size := fun g hg => h.op.lt g hg
theorem RdA.vu_lt (h : RdA lo B bm t op m O vo vu W) : ∀ g, vu.ownBlock = some g → lo ≤ g ∧ g < W.heap.size := fun g hg => h.out.lt g hg
/-- A block that is new is left alone. -/
theorem RdA.newSafe (h : RdA lo B bm t op m O vo vu W) {k : Nat} (hk : W.heap.size ≤ k) (hl : k < W'.heap.size) : Safe B vo vu W' k :=
  ⟨hl, fun e => by have := h.box.lt; omega, fun e => by have := h.vo_lt k e; omega, fun e => by have := h.vu_lt k e; omega⟩
theorem RdA.lowSafe (h : RdA lo B bm t op m O vo vu W) {k : Nat} (hk : k < lo) (hB : k ≠ B) : Safe B vo vu W k :=
  ⟨Nat.lt_of_lt_of_le hk h.top, hB, fun e => by have := h.vo_lt k e; omega, fun e => by have := h.vu_lt k e; omega⟩
theorem RdA.below (h : RdA lo B bm t op m O vo vu W) (hb : Below W.heap.size W W') : RdA lo B bm t op m O vo vu W' :=
  ⟨h.blo, h.mlo, h.mb, h.box.below hb h.box.lt, h.map.below hb h.map.lt, own_belowK h.op hb, own_belowK h.out hb, h.apart, Nat.le_trans h.top hb.size⟩
theorem RdA.drew (h : RdA lo B bm t op m O vo vu W) : RdA lo B bm t op m O vo vu W.drew := h.below (Below.drew (Below.refl _ _))
theorem RdA.drewN (h : RdA lo B bm t op m O vo vu W) (n : Nat) : RdA lo B bm t op m O vo vu (W.drewN n) := h.below (below_of_drewN _ _)
theorem RdA.many (h : RdA lo B bm t op m O vo vu W) (m' : Nat) : RdA lo B bm t op m' O vo vu (W.setCell ⟨B, 2, none⟩ (.int .i64 (m' : Int))) :=
  ⟨h.blo, h.mlo, h.mb, h.box.same 2 _, h.map.same (Below.heap_setCell _ _ _ _ (fun e => h.mb e)), own_setB h.op h.blo _, own_setB h.out h.blo _, h.apart, by simpa using h.top⟩
theorem RdA.pushOut (h : RdA lo B bm t op m O vo vu W) {o : Obj} {g c : Nat} {x : List UInt8} {u : Value} (hu : sv x = u) (hg : (W.alloc o).grownBy W' vu.ownBlock)
    (hown : W'.ownsRow lo 9 1 (.slice (some ⟨g, 0, none⟩) (O.length + 1) c) (O.length + 1) (O.map sv ++ [u])) (hat : vu.ownBlock = some g ∨ g = W.heap.size + 1) :
    RdA lo B bm t op m (O ++ [x]) vo (.slice (some ⟨g, 0, none⟩) (O.length + 1) c) (W'.setCell ⟨B, 3, none⟩ (.slice (some ⟨g, 0, none⟩) (O.length + 1) c)) ∧
      Fr B vo vu W vo (.slice (some ⟨g, 0, none⟩) (O.length + 1) c) (W'.setCell ⟨B, 3, none⟩ (.slice (some ⟨g, 0, none⟩) (O.length + 1) c)) := by
  subst hu
  have hsz := hg.size
  simp at hsz
  have hlo : ∀ k, k < lo → W'.heap[k]? = W.heap[k]? := fun k hk => by
    have htop := h.top
    rw [hg.block k (by simp; omega) (fun e => by have := h.vu_lt k e.symm; omega), Below.heap_alloc _ _ _ (by omega)]
  have hbox : Blk W' B 113 [.map (some bm), vo, .int .i64 (m : Int), vu] := by unfold Blk; rw [hlo B h.blo]; exact h.box
  have hgs : ∀ k, vo.ownBlock = some k → g ≠ k := fun k hk e => by
    subst e
    rcases hat with q | q
    · exact h.apart g hk q
    · have := h.vo_lt g hk; omega
  refine ⟨⟨h.blo, h.mlo, h.mb, hbox.same 3 _, (h.map.same (hlo bm h.mlo)).same (Below.heap_setCell _ _ _ _ (fun e => h.mb e)), own_setB (own_gr (h.op.alloc _) hg (fun k hk e => h.apart k hk e)) h.blo _, ?_, fun k hk e => ?_, by simp; have := h.top; omega⟩, ?_⟩
  · have : W'.ownsRow lo 9 1 (.slice (some ⟨g, 0, none⟩) (O.length + 1) c) (O ++ [x]).length ((O ++ [x]).map sv) := by rw [List.map_append, List.length_append]; exact hown
    exact own_setB this h.blo _
  · injection e with e
    exact hgs k hk e
  · refine Fr.setB (show Fr B vo vu W vo (.slice (some ⟨g, 0, none⟩) (O.length + 1) c) W' from ⟨hg.os, hg.tape, hg.output, by omega, fun k hk => ?_, .inl rfl, ?_⟩) 3 _
    · rw [hg.block k (by simp; have := hk.1; omega) (fun e => hk.2.2.2 e.symm), Below.heap_alloc _ _ _ hk.1]
    · rcases hat with q | q
      · exact .inl q.symm
      · exact .inr fun k hk => by have hk : g = k := Option.some.inj hk; omega
theorem RdA.pushOp (h : RdA lo B bm t op m O vo vu W) {o : Obj} {g c : Nat} {x : List UInt8} {u : Value} (hu : sv x = u) (hg : (W.alloc o).grownBy W' vo.ownBlock)
    (hown : W'.ownsRow lo 9 1 (.slice (some ⟨g, 0, none⟩) (op.length + 1) c) (op.length + 1) (op.map sv ++ [u])) (hat : vo.ownBlock = some g ∨ g = W.heap.size + 1) :
    RdA lo B bm t (op ++ [x]) m O (.slice (some ⟨g, 0, none⟩) (op.length + 1) c) vu (W'.setCell ⟨B, 1, none⟩ (.slice (some ⟨g, 0, none⟩) (op.length + 1) c)) ∧
      Fr B vo vu W (.slice (some ⟨g, 0, none⟩) (op.length + 1) c) vu (W'.setCell ⟨B, 1, none⟩ (.slice (some ⟨g, 0, none⟩) (op.length + 1) c)) := by
  subst hu
  have hsz := hg.size
  simp at hsz
  have hlo : ∀ k, k < lo → W'.heap[k]? = W.heap[k]? := fun k hk => by
    have htop := h.top
    rw [hg.block k (by simp; omega) (fun e => by have := h.vo_lt k e.symm; omega), Below.heap_alloc _ _ _ (by omega)]
  have hbox : Blk W' B 113 [.map (some bm), vo, .int .i64 (m : Int), vu] := by unfold Blk; rw [hlo B h.blo]; exact h.box
  have hgs : ∀ k, vu.ownBlock = some k → g ≠ k := fun k hk e => by
    subst e
    rcases hat with q | q
    · exact h.apart g q hk
    · have := h.vu_lt g hk; omega
  refine ⟨⟨h.blo, h.mlo, h.mb, hbox.same 1 _, (h.map.same (hlo bm h.mlo)).same (Below.heap_setCell _ _ _ _ (fun e => h.mb e)), ?_, own_setB (own_gr (h.out.alloc _) hg (fun k hk e => h.apart k e hk)) h.blo _, fun k hk e => ?_, by simp; have := h.top; omega⟩, ?_⟩
  · have : W'.ownsRow lo 9 1 (.slice (some ⟨g, 0, none⟩) (op.length + 1) c) (op ++ [x]).length ((op ++ [x]).map sv) := by rw [List.map_append, List.length_append]; exact hown
    exact own_setB this h.blo _
  · injection hk with hk
    exact hgs k e hk
  · refine Fr.setB (show Fr B vo vu W (.slice (some ⟨g, 0, none⟩) (op.length + 1) c) vu W' from ⟨hg.os, hg.tape, hg.output, by omega, fun k hk => ?_, ?_, .inl rfl⟩) 1 _
    · rw [hg.block k (by simp; have := hk.1; omega) (fun e => hk.2.2.1 e.symm), Below.heap_alloc _ _ _ hk.1]
    · rcases hat with q | q
      · exact .inl q.symm
      · exact .inr fun k hk => by have hk : g = k := Option.some.inj hk; omega
theorem own_front {b n c : Nat} {T : TypeId} {A : Option Addr} {xs : List Value} {x : Value} (h : W.ownsRow b T 1 (.slice A (n + 1) c) (n + 1) (xs ++ [x])) : W.ownsRow b T 1 (.slice A n c) n xs := by
  obtain ⟨h1, h2⟩ := h
  simp at h1
  refine ⟨by omega, ?_⟩
  rcases h2 with ⟨_, h2⟩ | ⟨g, cap, cur, hv, hb, hh, hc, hm, hs, ht⟩
  · omega
  · injection hv with hA _ hcap
    refine .inr ⟨g, cap, cur, by rw [hA, hcap], hb, hh, by omega, hm, hs, ?_⟩
    have ht' : cur.toList.take (n + 1) = xs ++ [x] := by simpa using ht
    have e : cur.toList.take n = (cur.toList.take (n + 1)).take n := by rw [List.take_take]; congr 1; omega
    rw [Nat.mul_one, e, ht', List.take_append_of_le_length (by omega), List.take_of_length_le (by omega)]
theorem RdA.pop {A : Option Addr} {n c : Nat} {x : List UInt8} (h : RdA lo B bm t (op ++ [x]) m O (.slice A (n + 1) c) vu W) (hn : op.length = n) : RdA lo B bm t op m O (.slice A n c) vu (W.setCell ⟨B, 1, none⟩ (.slice A n c)) := by
  have hown := h.op
  rw [List.length_append, List.map_append, List.length_singleton, hn] at hown
  have ho : W.ownsRow lo 9 1 (.slice A n c) op.length (op.map sv) := by rw [hn]; exact own_front hown
  refine ⟨h.blo, h.mlo, h.mb, h.box.same 1 _, h.map.same (Below.heap_setCell _ _ _ _ (fun e => h.mb e)), own_setB ho h.blo _, own_setB h.out h.blo _, fun g hg => h.apart g (by cases A <;> exact hg), by simpa using h.top⟩
end
theorem step_pushOut {lo B bm : Nat} {t : List TxtT} {op : List (List UInt8)} {m n c : Nat} {O : List (List UInt8)} {vo : Value} {A : Option Addr} {ops : Array Oper} {o : Oper} {a : Act} {K : Act → World → Prop} {Q : Exit → Act → World → Prop} {F : Prop} (W : World) (s x : Operand)
    (h : RdA lo B bm t op m O vo (.slice A n c) W) (hO : O.length = n) (hn : n ≤ 10000) {y : List UInt8} {u : Value} (hu : sv y = u)
    (hgd : o.guard = none) (ho : o.op = .call { callee := .builtin .append, args := #[s, x], argTypes := #[22, 22] })
    (hs : a.eval s = .slice A n c) (hx : a.eval x = .slice (some ⟨W.heap.size, 0, none⟩) 1 1)
    (hc : ∀ g c' w', Blk w' B 113 [.map (some bm), vo, .int .i64 (m : Int), .slice A n c] → (W.alloc (.cells #[u] 9)).grownBy w' (Value.slice A n c).ownBlock → RdA lo B bm t op m (O ++ [y]) vo (.slice (some ⟨g, 0, none⟩) (n + 1) c') (w'.setCell ⟨B, 3, none⟩ (.slice (some ⟨g, 0, none⟩) (n + 1) c')) → Fr B vo (.slice A n c) W vo (.slice (some ⟨g, 0, none⟩) (n + 1) c') (w'.setCell ⟨B, 3, none⟩ (.slice (some ⟨g, 0, none⟩) (n + 1) c')) →
      K (a.put o.dst (.slice (some ⟨g, 0, none⟩) (n + 1) c')) w') :
    if Region.wanted o (yielded ops a.tmps) = true then Oper.wp Tryz.prog o a (W.alloc (.cells #[u] 9)) K Q else F := by
  obtain ⟨ht, ⟨i, v, hi, hz, h1, hb, hzs⟩, hp⟩ := elStrF
  have hr := h.out
  rw [hO] at hr
  have htop := h.top
  have hB' : lo ≤ (W.alloc (.cells #[u] 9)).heap.size := by simp; omega
  have e1 : (W.alloc (.cells #[u] 9)).heap.size = W.heap.size + 1 := by simp
  have hone : u.oneCell' = true := by rw [← hu]; rfl
  refine step_append_lies _ hgd s x 22 ho lo 9 i v 1 16 ht hi hz h1 hb hzs hp (.slice A n c) n (O.map sv) hs (hr.alloc _) ⟨W.heap.size, 0, none⟩ 1 1 [u] hx rfl ?_ (by intro q hq; simp at hq; rw [hq]; exact hone) (by decide) (by unfold maxLen; omega) (by omega) hB' _ e1 ?_
  · intro j q hj
    rw [Addr.add_lit, World.cell?_alloc_at _ _ _ _ rfl, Nat.zero_add]
    simpa using hj
  · intro g cap w' hown' hg hor _
    have hor2 : (Value.slice A n c).ownBlock = some g ∨ g = W.heap.size + 1 := by
      rcases hor with q | q
      · exact .inl (by first | (rw [q]; done) | (rw [q]; rfl))
      · exact .inr q
    have hbb : Blk w' B 113 [.map (some bm), vo, .int .i64 (m : Int), .slice A n c] := by
      unfold Blk
      rw [hg.block B (by simp; have := h.box.lt; omega) (fun e => by have := h.vu_lt B e.symm; have := h.blo; omega), Below.heap_alloc _ _ _ h.box.lt]
      exact h.box
    subst hO
    obtain ⟨g1, g2⟩ := h.pushOut hu hg hown' hor2
    exact hc g cap w' hbb hg g1 g2
theorem step_pushOp {lo B bm : Nat} {t : List TxtT} {op : List (List UInt8)} {m n c : Nat} {O : List (List UInt8)} {vu : Value} {A : Option Addr} {ops : Array Oper} {o : Oper} {a : Act} {K : Act → World → Prop} {Q : Exit → Act → World → Prop} {F : Prop} (W : World) (s x : Operand)
    (h : RdA lo B bm t op m O (.slice A n c) vu W) (hO : op.length = n) (hn : n ≤ 10000) {y : List UInt8} {u : Value} (hu : sv y = u)
    (hgd : o.guard = none) (ho : o.op = .call { callee := .builtin .append, args := #[s, x], argTypes := #[22, 22] })
    (hs : a.eval s = .slice A n c) (hx : a.eval x = .slice (some ⟨W.heap.size, 0, none⟩) 1 1)
    (hc : ∀ g c' w', Blk w' B 113 [.map (some bm), .slice A n c, .int .i64 (m : Int), vu] → (W.alloc (.cells #[u] 9)).grownBy w' (Value.slice A n c).ownBlock → RdA lo B bm t (op ++ [y]) m O (.slice (some ⟨g, 0, none⟩) (n + 1) c') vu (w'.setCell ⟨B, 1, none⟩ (.slice (some ⟨g, 0, none⟩) (n + 1) c')) → Fr B (.slice A n c) vu W (.slice (some ⟨g, 0, none⟩) (n + 1) c') vu (w'.setCell ⟨B, 1, none⟩ (.slice (some ⟨g, 0, none⟩) (n + 1) c')) →
      K (a.put o.dst (.slice (some ⟨g, 0, none⟩) (n + 1) c')) w') :
    if Region.wanted o (yielded ops a.tmps) = true then Oper.wp Tryz.prog o a (W.alloc (.cells #[u] 9)) K Q else F := by
  obtain ⟨ht, ⟨i, v, hi, hz, h1, hb, hzs⟩, hp⟩ := elStrF
  have hr := h.op
  rw [hO] at hr
  have htop := h.top
  have hB' : lo ≤ (W.alloc (.cells #[u] 9)).heap.size := by simp; omega
  have e1 : (W.alloc (.cells #[u] 9)).heap.size = W.heap.size + 1 := by simp
  have hone : u.oneCell' = true := by rw [← hu]; rfl
  refine step_append_lies _ hgd s x 22 ho lo 9 i v 1 16 ht hi hz h1 hb hzs hp (.slice A n c) n (op.map sv) hs (hr.alloc _) ⟨W.heap.size, 0, none⟩ 1 1 [u] hx rfl ?_ (by intro q hq; simp at hq; rw [hq]; exact hone) (by decide) (by unfold maxLen; omega) (by omega) hB' _ e1 ?_
  · intro j q hj
    rw [Addr.add_lit, World.cell?_alloc_at _ _ _ _ rfl, Nat.zero_add]
    simpa using hj
  · intro g cap w' hown' hg hor _
    have hor2 : (Value.slice A n c).ownBlock = some g ∨ g = W.heap.size + 1 := by
      rcases hor with q | q
      · exact .inl (by first | (rw [q]; done) | (rw [q]; rfl))
      · exact .inr q
    have hbb : Blk w' B 113 [.map (some bm), .slice A n c, .int .i64 (m : Int), vu] := by
      unfold Blk
      rw [hg.block B (by simp; have := h.box.lt; omega) (fun e => by have := h.vo_lt B e.symm; have := h.blo; omega), Below.heap_alloc _ _ _ h.box.lt]
      exact h.box
    subst hO
    obtain ⟨g1, g2⟩ := h.pushOp hu hg hown' hor2
    exact hc g cap w' hbb hg g1 g2
set_option maxRecDepth 100000 in
set_option maxHeartbeats 1000000 in
theorem inclD_any {B k2 n c : Nat} {A : Option Addr} {u1 u2 u3 : Value} (u : FrameMode) (w : World) (hk : w.cell? ⟨k2, 0, none⟩ = some (.pointer (some ⟨B, 0, none⟩))) (hb : Blk w B 113 [u1, .slice A (n + 1) c, u2, u3]) (hn : n ≤ 20) (hc : n + 1 ≤ c) (hA : ∃ g, A = some ⟨g, 0, none⟩) :
    CallsD Tryz.prog 169 #[.pointer (some ⟨k2, 0, none⟩)] u w fun e u' w' => u' = u ∧ (e = .returned (.tuple #[]) ∧ w' = (w.setCell ⟨B, 1, none⟩ (.slice A n c)).drew) := by
  obtain ⟨g, rfl⟩ := hA
  have h1 := hb.cell (j := 1) rfl
  have f1 := hb.free 1
  have e1 : IntKind.i64.wrap (((n : Int) + 1) - 1) = (n : Int) := by rw [IntKind.wrap_i64]; omega
  have e2 : ((n : Int) + 1) - 1 = (n : Int) := by omega
  have e3 : (0 : Int) ≤ (n : Int) := by omega
  have e4 : (n : Int) ≤ (c : Int) := by omega
  have e5 : n ≤ c := by omega
  clear hb
  go_enter_d Tryz.func169, Tryz.ntmps169
  go_wp2_with fail
  go_region
  go_end0
  exact ⟨rfl, rfl⟩
end Go.Proofs.YtoandhhkmkgmaaaGreatDoor
/- reader.include, under what reader.read does one step deeper. -/
namespace Go.Proofs.YtoandhhkmkgmaaaGreatDoor
open Go.RowKit

theorem strKindF : Tryz.prog.underlying 9 = some .string := Tryz.underlying9
theorem txtKind : Tryz.prog.underlying 111 = some (.map 9 9) := Tryz.underlying111
theorem strZeroF (w : World) : (zeroValue 9).run Tryz.prog w = .ok (.string ⟨#[]⟩) w := by kernel_rfl
theorem keys_txtM (t : List TxtT) : keysS (txtM t) = t.map (·.1) := by
  unfold keysS txtM
  rw [List.map_map]
  rfl
/-- Texts that come in: names each once, none long. -/
structure TxtOk (t : List TxtT) : Prop where
  once : (t.map (·.1)).Nodup
  len : t.length ≤ 20
  each : ∀ x ∈ t, x.1.length ≤ 40 ∧ x.2.length ≤ 4000000000
theorem TxtOk.keys {t : List TxtT} (h : TxtOk t) : KeysOk (txtM t) := fun s hs => by
  rw [keys_txtM] at hs
  obtain ⟨x, hx, rfl⟩ := List.mem_map.1 hs
  have := (h.each x hx).1
  unfold maxLen
  omega
theorem lookTxt {w : World} {bm : Nat} {t : List TxtT} (hm : MapS w bm (txtM t)) (h : TxtOk t) (n : List UInt8) (hn : n.length ≤ 9223372036854775807) :
    (txtAt t n = none ∧ (Instr.lookup 111 (.map (some bm)) (.string ⟨n.toArray⟩) true).run Tryz.prog w = .ok (.tuple #[.string ⟨#[]⟩, .bool false]) w) ∨
    ∃ s, txtAt t n = some s ∧ (Instr.lookup 111 (.map (some bm)) (.string ⟨n.toArray⟩) true).run Tryz.prog w = .ok (.tuple #[sv s, .bool true]) w := by
  rcases run_lookS strKindF txtKind (strZeroF w) hm h.keys n (by unfold maxLen; omega) true with ⟨h1, h2⟩ | ⟨j, v, h1, h2⟩
  · rw [keys_txtM] at h1
    refine .inl ⟨?_, h2⟩
    cases hl : txtAt t n with
    | none => rfl
    | some s => exact absurd (List.mem_map.2 ⟨(n, s), txtAt_mem hl, rfl⟩) h1
  · unfold txtM at h1
    rw [List.getElem?_map] at h1
    obtain ⟨⟨a, s⟩, hx, he⟩ := Option.map_eq_some_iff.1 h1
    injection he with h3 h4
    dsimp only at h3 h4
    subst h3 h4
    exact .inr ⟨s, txtAt_at h.once hx, h2⟩
/-- The lines of a text that a line names. -/
def inclA (t : List TxtT) (rec : RecT) (op : List (List UInt8)) (ws : List (List UInt8)) (m : Nat) (O : List (List UInt8)) : ResT :=
  if ws.length ≠ 2 then (3, 0, [])
  else if txtAt t (ws.getD 1 []) = none then (5, 0, [])
  else if ws.getD 1 [] ∈ op then (8, 0, [])
  else rec (op ++ [ws.getD 1 []]) ((txtAt t (ws.getD 1 [])).getD []) m O
def RdrPost (lo B bm : Nat) (t : List TxtT) (op : List (List UInt8)) (vo vu : Value) (r : ResT) (W : World) (e : Ending) (W' : World) : Prop :=
  ∃ (m' : Nat) (O' : List (List UInt8)) (vo' vu' : Value), e = .returned (.int .i64 (r.1 : Int)) ∧ Fr B vo vu W vo' vu' W' ∧ RdA lo B bm t op m' O' vo' vu' W' ∧ (r.1 = 0 → m' = r.2.1 ∧ O' = r.2.2)
structure OpOk (t : List TxtT) (op : List (List UInt8)) (d : Nat) : Prop where
  once : op.Nodup
  sub : ∀ n ∈ op, n ∈ t.map (·.1)
  fuel : t.length < op.length + d
theorem OpOk.pos {t : List TxtT} {op : List (List UInt8)} {d : Nat} (h : OpOk t op d) : 0 < d ∧ op.length ≤ t.length := by
  have h1 : op.length ≤ (t.map (·.1)).length := List.Nodup.length_le_of_subset h.once (fun n hn => h.sub n hn)
  rw [List.length_map] at h1
  have := h.fuel
  omega
theorem OpOk.push {t : List TxtT} {op : List (List UInt8)} {d : Nat} (h : OpOk t op (d + 1)) {n s : List UInt8} (hn : n ∉ op) (ht : txtAt t n = some s) : OpOk t (op ++ [n]) d :=
  ⟨nodup_snoc.2 ⟨h.once, hn⟩, fun x hx => by
    rcases List.mem_append.1 hx with hx | hx
    · exact h.sub x hx
    · rw [List.mem_singleton.1 hx]; exact List.mem_map.2 ⟨(n, s), txtAt_mem ht, rfl⟩, by have := h.fuel; simp; omega⟩
/-- What read does, d steps deep. -/
def ReadDoes (t : List TxtT) (lo B bm d : Nat) (mx : Int) : Prop :=
  ∀ (op : List (List UInt8)) (s : List UInt8) (m : Nat) (O : List (List UInt8)) (vo vu : Value) (W : World), RdA lo B bm t op m O vo vu W → OpOk t op d → s.length ≤ 4000000000 → m ≤ 200 → O.length ≤ m → W.cell? ⟨1, 0, none⟩ = some (.int .i64 mx) →
    Calls Tryz.prog 65 #[.pointer (some ⟨B, 0, none⟩), sv s] W (RdrPost lo B bm t op vo vu (readA t d op s m O) W)
set_option maxRecDepth 100000 in
set_option maxHeartbeats 4000000 in
theorem rInclude_any {t : List TxtT} {lo B bm d : Nat} {mx : Int} (HT : TxtOk t) (hrec : ReadDoes t lo B bm d mx) (hml : 1 < lo) (hmB : 1 ≠ B)
    {Aw : Option Addr} {nw cw : Nat} (ws op : List (List UInt8)) (m : Nat) (O : List (List UInt8)) (vo vu : Value) (W : World) (h : RdA lo B bm t op m O vo vu W) (hop : OpOk t op (d + 1)) (hm : m ≤ 200) (hO : O.length ≤ m)
    (hmx : W.cell? ⟨1, 0, none⟩ = some (.int .i64 mx)) (hw : Rd W Aw (ws.map sv)) (hsf : ∀ g off, Aw = some ⟨g, off, none⟩ → Safe B vo vu W g) (hwn : ws.length = nw) (hws : ∀ x ∈ ws, x.length ≤ 4294967295) (hwb : nw ≤ 9223372036854775807) :
    Calls Tryz.prog 117 #[.pointer (some ⟨B, 0, none⟩), .slice Aw nw cw] W (RdrPost lo B bm t op vo vu (inclA t (readA t d) op ws m O) W) := by
  have hmf : ∀ (fn : Fn) (first cap : Array Value) (w : World), (Instr.makeFunc fn first cap).run Tryz.prog w = .ok (.func fn first cap) w := fun _ _ _ _ => rfl
  have HMF := Lib.hid hmf
  have HB0 := below_new (Below.refl W.heap.size W) (.cells #[.pointer (some ⟨B, 0, none⟩)] 110)
  have HR0 := Lib.hid (h.below HB0)
  have HF0 := Lib.hid (Fr.of_below (B := B) (vo := vo) (vu := vu) HB0)
  have HK0 := Lib.hid (Blk.new W #[.pointer (some ⟨B, 0, none⟩)] 110)
  have HS0 := Lib.hid (h.newSafe (Nat.le_refl _) HK0.out.lt)
  have HW0 := Lib.hid (hw.below HB0)
  have HMX := Lib.hid (cell_kept hmx HB0)
  have HSF := Lib.hid (fun g off hg => (Fr.of_below (B := B) (vo := vo) (vu := vu) HB0).safe (hsf g off hg))
  have HWN := Lib.hid hwn
  have HWS := Lib.hid hws
  have HREC := Lib.hid hrec
  have HOP := Lib.hid hop
  have HTT := Lib.hid HT
  have HML := Lib.hid (And.intro hml hmB)
  clear h hop hmx hsf hw hwn hws hrec HT hml hmB HB0 hmf
  by_cases hn2 : nw = 2
  case neg =>
    have HE : Hid (inclA t (readA t d) op ws m O = (3, 0, [])) := Lib.hid (by unfold inclA; rw [if_pos (by rw [HWN.out]; exact hn2)])
    have hne : ((nw : Int) != 2) = true := by simp; omega
    clear hn2
    go_enter_defers Tryz.func117, Tryz.ntmps117
    go_upto_region 1 with fail
    generalize W.alloc (.cells #[.pointer (some ⟨B, 0, none⟩)] 110) = w0 at *
    go_wp2_with fail
    exact ⟨_, results_tmp rfl _ _ _, m, O, vo, vu, by rw [HE.out]; rfl, HF0.out, HR0.out, fun h0 => by rw [HE.out] at h0; cases h0⟩
  case pos =>
    subst hn2
    obtain ⟨y0, hy0⟩ : ∃ y, ws[0]? = some y := ⟨_, List.getElem?_eq_getElem (by rw [HWN.out]; omega)⟩
    obtain ⟨y, hy⟩ : ∃ y, ws[1]? = some y := ⟨_, List.getElem?_eq_getElem (by rw [HWN.out]; omega)⟩
    have HY : Hid (ws.getD 1 [] = y) := Lib.hid (by rw [List.getD_eq_getElem?_getD, hy]; rfl)
    have HYL := Lib.hid (HWS.out y (List.mem_of_getElem? hy))
    obtain ⟨bw, off, rfl, cw1⟩ := HW0.out.scell hy
    have HBW := Lib.hid (HSF.out bw off rfl)
    obtain ⟨Ao, co, hvo⟩ := slice_ofF HR0.out.op
    subst hvo
    clear hy hy0 y0
    generalize hW0 : W.alloc (.cells #[.pointer (some ⟨B, 0, none⟩)] 110) = w0 at *
    have HWW := Lib.hid hW0
    clear hW0
    have k0 : w0.cell? ⟨W.heap.size, 0, none⟩ = some (.pointer (some ⟨B, 0, none⟩)) := HK0.out.cell (j := 0) rfl
    have b0 : w0.cell? ⟨B, 0, none⟩ = some (.map (some bm)) := HR0.out.box.cell (j := 0) rfl
    have b1 : w0.cell? ⟨B, 1, none⟩ = some (.slice Ao op.length co) := HR0.out.box.cell (j := 1) rfl
    have HLKK := Lib.hid (fun n => lookTxt (w := w0.drewN n) (HR0.out.below (below_of_drewN w0 n)).map HTT.out y (by have := HYL.out; omega))
    have hby : ∃ by', (⟨y.toArray⟩ : ByteArray) = by' := ⟨_, rfl⟩
    obtain ⟨by', hby⟩ := hby
    have HBY := Lib.hid hby
    rw [hby] at cw1 HLKK
    clear hby
    cases hl : txtAt t y with
    | none =>
      have HE : Hid (inclA t (readA t d) op ws m O = (5, 0, [])) := Lib.hid (by unfold inclA; rw [if_neg (by rw [HWN.out]; decide), HY.out, if_pos hl])
      have LK : ∀ n, (Instr.lookup 111 (.map (some bm)) (.string by') true).run Tryz.prog (w0.drewN n) = .ok (.tuple #[.string ⟨#[]⟩, .bool false]) (w0.drewN n) := fun n => by
        rcases HLKK.out n with ⟨_, h⟩ | ⟨s, h, _⟩
        · exact h
        · rw [hl] at h; cases h
      have HLK := Lib.hid LK
      clear hl LK
      go_enter_defers Tryz.func117, Tryz.ntmps117
      go_upto_region 3 with fail
      rw [HWW.out]
      have LK := HLK.out
      go_quiet (fail)
      go_wp2_with fail
      exact ⟨_, results_tmp rfl _ _ _, m, O, _, vu, by rw [HE.out]; rfl, HF0.out.drewN _, HR0.out.drewN _, fun h0 => by rw [HE.out] at h0; cases h0⟩
    | some s' =>
      have LK : ∀ n, (Instr.lookup 111 (.map (some bm)) (.string by') true).run Tryz.prog (w0.drewN n) = .ok (.tuple #[sv s', .bool true]) (w0.drewN n) := fun n => by
        rcases HLKK.out n with ⟨h, _⟩ | ⟨s2, h, h2⟩
        · rw [hl] at h; cases h
        · rw [hl] at h; injection h with h; rw [h]; exact h2
      have HLK := Lib.hid LK
      have HAT := Lib.hid hl
      have HSL : Hid (s'.length ≤ 4000000000) := Lib.hid ((HTT.out.each _ (txtAt_mem hl)).2)
      have HPOS := Lib.hid HOP.out.pos.2
      have HT20 := Lib.hid HTT.out.len
      obtain ⟨bs', hbs⟩ : ∃ b, sv s' = .string b := ⟨_, rfl⟩
      have HBS := Lib.hid hbs
      rw [hbs] at HLK LK
      clear hl LK hbs
      go_enter_defers Tryz.func117, Tryz.ntmps117
      go_upto_region 3 with fail
      rw [HWW.out]
      have LK := HLK.out
      go_quiet (fail)
      clear LK HLK HLKK
      go_upto_region 6 with fail
      have HR1 := Lib.hid (HR0.out.drewN nq)
      have HF1 := Lib.hid (HF0.out.drewN nq)
      have HK1 := Lib.hid (HK0.out.below (below_of_drewN w0 nq) HK0.out.lt)
      have HM1 := Lib.hid (cell_kept HMX.out (below_of_drewN w0 nq))
      have k1 := HK1.out.cell (j := 0) rfl
      have d1 := HR1.out.box.cell (j := 1) rfl
      have hc1 := cell_kept cw1 (below_of_drewN w0 nq)
      have HS1 := Lib.hid ((Fr.of_below (below_of_drewN w0 nq)).safe HS0.out)
      have HBW1 := Lib.hid ((Fr.of_below (below_of_drewN w0 nq)).safe HBW.out)
      clear k0 b0 b1 cw1 HR0 HF0 HK0 HMX HW0 HS0 HBW HSF
      generalize w0.drewN nq = w1 at *
      have CC := Lib.hid (fun n => show Calls Tryz.prog 84 #[.slice Ao op.length co, .string ⟨y.toArray⟩] (w1.drewN n) _ from slContains_any (c := co) op y (w1.drewN n) (Rd.own2 (HR1.out.drewN n).op) rfl (by have := HPOS.out; have := HT20.out; omega))
      rw [HBY.out] at CC
      by_cases hin : y ∈ op
      · have hi : inL op y = true := decide_eq_true hin
        have HE : Hid (inclA t (readA t d) op ws m O = (8, 0, [])) := Lib.hid (by unfold inclA; rw [if_neg (by rw [HWN.out]; decide), HY.out, if_neg (by rw [HAT.out]; simp), if_pos hin])
        rw [hi] at CC
        clear hi hin
        go_quiet ((go_at_call 84; exact quiet_left (CC.out _)))
        go_wp2_with fail
        exact ⟨_, results_tmp rfl _ _ _, m, O, _, vu, by rw [HE.out]; rfl, HF1.out.drewN _, HR1.out.drewN _, fun h0 => by rw [HE.out] at h0; cases h0⟩
      · have hi : inL op y = false := decide_eq_false hin
        have HE : Hid (inclA t (readA t d) op ws m O = readA t d (op ++ [y]) s' m O) := Lib.hid (by unfold inclA; rw [if_neg (by rw [HWN.out]; decide), HY.out, if_neg (by rw [HAT.out]; simp), if_neg hin, HAT.out]; rfl)
        have HOP2 := Lib.hid (HOP.out.push hin HAT.out)
        rw [hi] at CC
        clear hi hin
        go_quiet ((go_at_call 84; exact quiet_left (CC.out _)))
        clear CC
        go_upto_region 8 with fail
        have HR2 := Lib.hid ((HR1.out.drewN nq).drew)
        have HF2 := Lib.hid ((HF1.out.drewN nq).drew)
        have HFD := Lib.hid (Fr.of_below (B := B) (vo := .slice Ao op.length co) (vu := vu) (Below.drew (below_of_drewN w1 nq)))
        have HS2 := Lib.hid (HFD.out.safe HS1.out)
        have HBW2 := Lib.hid (HFD.out.safe HBW1.out)
        have HM2 := Lib.hid (show (w1.drewN nq).drew.cell? ⟨1, 0, none⟩ = some (.int .i64 mx) from HM1.out)
        have HSS : Hid ((w1.drewN nq).drew.cell? ⟨W.heap.size, 0, none⟩ = some (.pointer (some ⟨B, 0, none⟩)) ∧ (w1.drewN nq).drew.cell? ⟨B, 1, none⟩ = some (.slice Ao op.length co) ∧ (w1.drewN nq).drew.cell? ⟨bw, off + 1, none⟩ = some (.string by')) := Lib.hid ⟨k1, d1, hc1⟩
        clear HR1 HF1 HFD HS1 HBW1 HM1 k1 d1 hc1 HK1
        obtain ⟨n0, hn0⟩ : ∃ n0, op.length = n0 := ⟨_, rfl⟩
        have HN0 := Lib.hid hn0
        have hn20 : n0 ≤ 20 := by rw [← hn0]; have := HPOS.out; have := HT20.out; omega
        rw [hn0] at HR2 HF2 HS2 HBW2 HSS
        refine wp_region_noPanic ?_
        refine wp_region_x (fun V => V.cell? ⟨W.heap.size, 0, none⟩ = some (.pointer (some ⟨B, 0, none⟩)) ∧ V.cell? ⟨B, 1, none⟩ = some (.slice Ao n0 co) ∧ V.cell? ⟨bw, off + 1, none⟩ = some (.string by')) 12 (by kernel_rfl) ?_
        generalize (w1.drewN nq).drew = w3 at *
        have HSA : Hid ((w3.alloc (.cells #[.string by'] 9)).cell? ⟨W.heap.size, 0, none⟩ = some (.pointer (some ⟨B, 0, none⟩)) ∧ (w3.alloc (.cells #[.string by'] 9)).cell? ⟨B, 1, none⟩ = some (.slice Ao n0 co) ∧ (w3.alloc (.cells #[.string by'] 9)).cell? ⟨bw, off + 1, none⟩ = some (.string by')) := Lib.hid ⟨cell_allocF HSS.out.1 _, cell_allocF HSS.out.2.1 _, cell_allocF HSS.out.2.2 _⟩
        clear hn0
        refine wpAnyX_take (i := 0) (v := ?v0) rfl (by kernel_rfl) (by kernel_rfl) (by kernel_rfl) (by kernel_rfl) (fun _ _ _ h => h) (Or.inl ⟨by rfl, ?hy0⟩) HSS.out ?rest0
        case hy0 => (intro V hSw; (try dsimp only at hSw); obtain ⟨hS1, hS2, hS3⟩ := hSw; go_simp; try with_reducible rfl)
        refine wpAnyX_take (i := 1) (v := ?v1) rfl (by kernel_rfl) (by kernel_rfl) (by kernel_rfl) (by kernel_rfl) (fun _ _ _ h => h) (Or.inl ⟨by rfl, ?hy1⟩) HSS.out ?rest1
        case hy1 => (intro V hSw; (try dsimp only at hSw); obtain ⟨hS1, hS2, hS3⟩ := hSw; go_simp; try with_reducible rfl)
        refine wpAnyX_take (i := 2) (v := ?v2) rfl (by kernel_rfl) (by kernel_rfl) (by kernel_rfl) (by kernel_rfl) (fun _ _ _ h => h) (Or.inl ⟨by rfl, ?hy2⟩) HSS.out ?rest2
        case hy2 => (intro V hSw; (try dsimp only at hSw); obtain ⟨hS1, hS2, hS3⟩ := hSw; go_simp; try with_reducible rfl)
        refine wpAnyX_take (i := 3) (v := ?v3) rfl (by kernel_rfl) (by kernel_rfl) (by kernel_rfl) (by kernel_rfl) (fun _ _ _ h => h) (Or.inl ⟨by rfl, ?hy3⟩) HSS.out ?rest3
        case hy3 => (intro V hSw; (try dsimp only at hSw); obtain ⟨hS1, hS2, hS3⟩ := hSw; go_simp; try with_reducible rfl)
        refine wpAnyX_take (i := 4) (v := ?v4) rfl (by kernel_rfl) (by kernel_rfl) (by kernel_rfl) (by kernel_rfl) (fun _ _ _ h => h) (Or.inl ⟨by rfl, ?hy4⟩) HSS.out ?rest4
        case hy4 => (intro V hSw; (try dsimp only at hSw); obtain ⟨hS1, hS2, hS3⟩ := hSw; go_simp; try with_reducible rfl)
        refine wpAnyX_take (i := 5) (v := ?v5) rfl (by kernel_rfl) (by kernel_rfl) (by kernel_rfl) (by kernel_rfl) (fun _ _ _ h => h) (Or.inl ⟨by rfl, ?hy5⟩) HSS.out ?rest5
        case hy5 => (intro V hSw; (try dsimp only at hSw); obtain ⟨hS1, hS2, hS3⟩ := hSw; go_simp; try with_reducible rfl)
        refine wpAnyX_take (i := 6) (v := ?v6) rfl (by kernel_rfl) (by kernel_rfl) (by kernel_rfl) (by kernel_rfl) (fun _ _ _ h => h) (Or.inl ⟨by rfl, ?hy6⟩) HSS.out ?rest6
        case hy6 => (intro V hSw; (try dsimp only at hSw); obtain ⟨hS1, hS2, hS3⟩ := hSw; go_simp; try with_reducible rfl)
        refine wpAnyX_take (i := 7) (v := ?v7) rfl (by kernel_rfl) (by kernel_rfl) (by kernel_rfl) (by kernel_rfl) (fun _ _ _ h => h) (Or.inl ⟨by rfl, ?hy7⟩) HSS.out ?rest7
        case hy7 => (intro V hSw; (try dsimp only at hSw); obtain ⟨hS1, hS2, hS3⟩ := hSw; go_simp; try with_reducible rfl)
        refine wpAnyX_one (i := 8) (by kernel_rfl) rfl (fun K hK => ?_)
        rw [if_pos (by rfl)]
        go_simp
        refine hK _ _ (fun _ => HSA.out) ?_
        clear hK K
        refine wpAnyX_one (i := 9) (by kernel_rfl) rfl (fun K hK => ?_)
        refine step_pushOp w3 (.tmp 37) (.tmp 41) HR2.out HN0.out (by omega) (y := y) (u := .string by') (by rw [← HBY.out]; rfl) rfl rfl (by simp [Act.eval]) (by simp [Act.eval]) ?_
        intro g9 c9 w9 hb9 hg9 hr9 hf9
        have t1 : w9.cell? ⟨B, 1, none⟩ = some (.slice Ao n0 co) := hb9.cell (j := 1) rfl
        have tf := hb9.free 1
        have hkk : w9.heap[W.heap.size]? = (w3.alloc (.cells #[.string by'] 9)).heap[W.heap.size]? := hg9.block _ (by simp; have := HS2.out.1; omega) (fun e => HS2.out.2.2.1 e.symm)
        have hkb : w9.heap[bw]? = (w3.alloc (.cells #[.string by'] 9)).heap[bw]? := hg9.block _ (by simp; have := HBW2.out.1; omega) (fun e => HBW2.out.2.2.1 e.symm)
        have HS9 := Lib.hid (show w9.cell? ⟨W.heap.size, 0, none⟩ = some (.pointer (some ⟨B, 0, none⟩)) ∧ w9.cell? ⟨B, 1, none⟩ = some (.slice Ao n0 co) ∧ w9.cell? ⟨bw, off + 1, none⟩ = some (.string by') from ⟨(World.cell?_of_block hkk).trans HSA.out.1, t1, (World.cell?_of_block hkb).trans HSA.out.2.2⟩)
        have HR9 := Lib.hid hr9
        have HF9 := Lib.hid hf9
        clear hb9 hg9 hr9 hf9 hkk hkb
        refine hK _ _ (fun _ => HS9.out) ?_
        clear hK K
        refine wpAnyX_one (i := 10) (by kernel_rfl) rfl (fun K hK => ?_)
        rw [if_pos (by rfl)]
        go_simp
        refine hK _ _ (fun _ => HS9.out) ?_
        clear hK K
        refine wpAnyX_take (i := 11) (v := ?v11) rfl (by kernel_rfl) (by kernel_rfl) (by kernel_rfl) (by kernel_rfl) (fun _ _ _ h => h) (Or.inl ⟨by rfl, ?hy11⟩) HS9.out ?rest11
        case hy11 => (intro V hSw; (try dsimp only at hSw); obtain ⟨hS1, hS2, hS3⟩ := hSw; go_simp; try with_reducible rfl)
        refine wpAnyX_one (i := 12) (by kernel_rfl) rfl (fun K hK => ?_)
        rw [if_pos (by rfl)]
        go_simp
        refine hK _ _ (fun h => absurd rfl h) ?_
        clear hK K
        refine wpAnyX_done (by kernel_rfl) ?_ _
        refine NoPanic.normal ?_
        have HF10 := Lib.hid (HF2.out.trans HF9.out)
        have HSK := Lib.hid (HF9.out.safe HS2.out)
        have HK10 : Hid ((w9.setCell ⟨B, 1, none⟩ (.slice (some ⟨g9, 0, none⟩) (n0 + 1) c9)).cell? ⟨W.heap.size, 0, none⟩ = some (.pointer (some ⟨B, 0, none⟩))) := Lib.hid ((World.cell?_of_block (Below.heap_setCell _ _ _ _ (fun e => HSK.out.2.1 e))).trans HS9.out.1)
        have HM10 : Hid ((w9.setCell ⟨B, 1, none⟩ (.slice (some ⟨g9, 0, none⟩) (n0 + 1) c9)).cell? ⟨1, 0, none⟩ = some (.int .i64 mx)) := Lib.hid ((World.cell?_of_block (HF9.out.block _ (HR2.out.lowSafe HML.out.1 HML.out.2))).trans HM2.out)
        clear t1 tf HS9 HSA HSS HF9 HF2 HR2 HS2 HBW2 HM2
        generalize w9.setCell ⟨B, 1, none⟩ (.slice (some ⟨g9, 0, none⟩) (n0 + 1) c9) = w10 at *
        have HCL := Lib.hid (HREC.out (op ++ [y]) s' m O (.slice (some ⟨g9, 0, none⟩) (n0 + 1) c9) vu w10 HR9.out HOP2.out HSL.out hm hO HM10.out)
        rw [HBS.out] at HCL
        have k10 := HK10.out
        have hmf := HMF.out
        go_wp2_with fail
        refine HCL.out.mono ?_
        rintro e w11 ⟨m', O', vo', vu', rfl, hf, hr, hres⟩
        have HF11 := Lib.hid (HF10.out.trans hf)
        have HR11 := Lib.hid hr
        have HRES := Lib.hid hres
        have hk11 : w11.cell? ⟨W.heap.size, 0, none⟩ = some (.pointer (some ⟨B, 0, none⟩)) := (World.cell?_of_block (hf.block _ HSK.out)).trans k10
        clear hf hr hres k10 HCL HR9
        obtain ⟨Ae, ce, hve⟩ := slice_ofF HR11.out.op
        rw [List.length_append, List.length_singleton, HN0.out] at hve
        subst hve
        have hown := HR11.out.op
        rw [List.length_append, List.length_singleton, HN0.out] at hown
        obtain ⟨ge, hge⟩ := rows_some hown
        go_wp2_with fail
        refine leaves_cons (f := 169) (args := #[.pointer (some ⟨W.heap.size, 0, none⟩)]) (by simp) (by simp [go_sem]) ?_
        refine (inclD_any (n := n0) .returning w11 hk11 HR11.out.box hn20 (own_room hown) ⟨ge, hge⟩).mono ?_
        rintro e u' w12 ⟨rfl, rfl, rfl⟩
        have he : (Value.slice Ae n0 ce).ownBlock = (Value.slice Ae (n0 + 1) ce).ownBlock := by cases Ae <;> rfl
        refine ⟨_, results_tmp rfl _ _ _, m', O', .slice Ae n0 ce, vu', by rw [HE.out]; rfl, ?_, (HR11.out.pop HN0.out).drew, by rw [HE.out]; exact HRES.out⟩
        rw [HN0.out]
        exact ((HF11.out.setB 1 _).drew).sameVo he
end Go.Proofs.YtoandhhkmkgmaaaGreatDoor
/- reader.read: the walk, by how deep texts are in one another. -/
namespace Go.Proofs.YtoandhhkmkgmaaaGreatDoor
open Go.RowKit

theorem stepsA_big {t : List TxtT} {rec : RecT} {op ls O : List (List UInt8)} {m : Nat} {x : List UInt8} (h : 200 < m + 1) : stepsA t rec op (x :: ls) m O = (2, 0, []) := by rw [stepsA, if_pos h]
theorem stepsA_line {t : List TxtT} {rec : RecT} {op ls O : List (List UInt8)} {m : Nat} {x : List UInt8} (h : ¬ 200 < m + 1) (h2 : (wordsL x).headD [] ≠ inclW) : stepsA t rec op (x :: ls) m O = stepsA t rec op ls (m + 1) (O ++ [x]) := by rw [stepsA, if_neg h, if_pos h2]
theorem inclA_3 {t : List TxtT} {rec : RecT} {op ws O : List (List UInt8)} {m : Nat} (h : ws.length ≠ 2) : inclA t rec op ws m O = (3, 0, []) := by unfold inclA; rw [if_pos h]
theorem inclA_5 {t : List TxtT} {rec : RecT} {op ws O : List (List UInt8)} {m : Nat} (h : ¬ ws.length ≠ 2) (h2 : txtAt t (ws.getD 1 []) = none) : inclA t rec op ws m O = (5, 0, []) := by unfold inclA; rw [if_neg h, if_pos h2]
theorem inclA_8 {t : List TxtT} {rec : RecT} {op ws O : List (List UInt8)} {m : Nat} (h : ¬ ws.length ≠ 2) (h2 : ¬ txtAt t (ws.getD 1 []) = none) (h3 : ws.getD 1 [] ∈ op) : inclA t rec op ws m O = (8, 0, []) := by unfold inclA; rw [if_neg h, if_neg h2, if_pos h3]
theorem inclA_rec {t : List TxtT} {rec : RecT} {op ws O : List (List UInt8)} {m : Nat} (h : ¬ ws.length ≠ 2) (h2 : ¬ txtAt t (ws.getD 1 []) = none) (h3 : ¬ ws.getD 1 [] ∈ op) : inclA t rec op ws m O = rec (op ++ [ws.getD 1 []]) ((txtAt t (ws.getD 1 [])).getD []) m O := by unfold inclA; rw [if_neg h, if_neg h2, if_neg h3]
theorem stepsA_incl {t : List TxtT} {rec : RecT} {op ls O : List (List UInt8)} {m : Nat} {x : List UInt8} (h : ¬ 200 < m + 1) (h2 : (wordsL x).headD [] = inclW) :
    stepsA t rec op (x :: ls) m O = if (inclA t rec op (wordsL x) (m + 1) O).1 ≠ 0 then ((inclA t rec op (wordsL x) (m + 1) O).1, 0, []) else stepsA t rec op ls (inclA t rec op (wordsL x) (m + 1) O).2.1 (inclA t rec op (wordsL x) (m + 1) O).2.2 := by
  rw [stepsA, if_neg h, if_neg (fun e => e h2)]
  by_cases h3 : (wordsL x).length ≠ 2
  · rw [if_pos h3, inclA_3 h3]
    rfl
  · rw [if_neg h3]
    by_cases h4 : txtAt t (w1L x) = none
    · rw [if_pos h4, inclA_5 h3 h4]
      rfl
    · rw [if_neg h4]
      by_cases h5 : w1L x ∈ op
      · rw [if_pos h5, inclA_8 h3 h4 h5]
        rfl
      · rw [if_neg h5, inclA_rec h3 h4 h5]
        rfl
theorem inclA_many {t : List TxtT} {d : Nat} {op ws O : List (List UInt8)} {m : Nat} (hm : m ≤ 200) (hO : O.length ≤ m) (h : (inclA t (readA t d) op ws m O).1 = 0) : (inclA t (readA t d) op ws m O).2.1 ≤ 200 ∧ (inclA t (readA t d) op ws m O).2.2.length ≤ (inclA t (readA t d) op ws m O).2.1 := by
  unfold inclA at h ⊢
  split at h
  · cases h
  · rename_i h1
    rw [if_neg h1]
    split at h
    · cases h
    · rename_i h2
      rw [if_neg h2]
      split at h
      · cases h
      · rename_i h3
        rw [if_neg h3]
        exact readA_many t d _ _ _ _ hm hO h
set_option maxRecDepth 100000 in
set_option maxHeartbeats 8000000 in
theorem rRead_step {t : List TxtT} {lo B bm d : Nat} {mx : Int} (HT : TxtOk t) (hrec : ReadDoes t lo B bm d mx) (hml : 1 < lo) (hmB : 1 ≠ B) : ReadDoes t lo B bm (d + 1) mx := by
  intro op s m O vo vu W h hop hsl hm hO hmx
  have HINC := Lib.hid (fun (Aw : Option Addr) (nw cw : Nat) (ws : List (List UInt8)) (m : Nat) (O : List (List UInt8)) (vo vu : Value) (W : World) h hm hO hmx hw hsf hwn hws hwb => rInclude_any (Aw := Aw) (nw := nw) (cw := cw) HT hrec hml hmB ws op m O vo vu W h hop hm hO hmx hw hsf hwn hws hwb)
  have HJ := Lib.hid (show Calls Tryz.prog 116 #[.string ⟨s.toArray⟩] W (JoPost s W) from lnJoinC_any s mx W (by omega) hmx)
  have HR := Lib.hid h
  have HMX := Lib.hid hmx
  have HM := Lib.hid (And.intro hml hmB)
  have HSL := Lib.hid hsl
  have HRA : Hid (readA t (d + 1) op s m O = if lnE s ≠ 0 then (lnE s, 0, []) else stepsA t (readA t d) op (linesT s) m O) := Lib.hid rfl
  show Calls _ _ #[.pointer (some ⟨B, 0, none⟩), .string ⟨s.toArray⟩] _ _
  generalize (⟨s.toArray⟩ : ByteArray) = bs at *
  clear h hop hmx hsl hrec HT hml hmB
  go_enter Tryz.func65, Tryz.ntmps65
  go_wp2_with fail
  refine HJ.out.mono ?_
  rintro e w1 ⟨hb1, ⟨hne, rfl⟩ | ⟨A, n, c, he0, hn, hown, rfl⟩⟩
  · have HE : Hid (readA t (d + 1) op s m O = (lnE s, 0, [])) := Lib.hid (by rw [HRA.out, if_pos hne])
    have HNE := Lib.hid hne
    have p1 : (((lnE s : Nat) : Int) != 0) = true := by simp; omega
    have HR1 := Lib.hid (HR.out.below hb1)
    have HF1 := Lib.hid (Fr.of_below (B := B) (vo := vo) (vu := vu) hb1)
    generalize hv : ((lnE s : Nat) : Int) = V at *
    have HV := Lib.hid hv
    clear hne hb1 hv
    go_wp2_with fail
    go_ret
    exact ⟨m, O, vo, vu, by rw [HE.out, ← HV.out]; rfl, HF1.out, HR1.out, fun h0 => by rw [HE.out] at h0; exact absurd h0 HNE.out⟩
  · have HRS : Hid (readA t (d + 1) op s m O = stepsA t (readA t d) op (linesT s) m O) := Lib.hid (by rw [HRA.out, if_neg (fun e => e he0)])
    have HR1 := Lib.hid (HR.out.below hb1)
    have HF1 := Lib.hid (Fr.of_below (B := B) (vo := vo) (vu := vu) hb1)
    have HM1 := Lib.hid (cell_kept HMX.out hb1)
    have HLN : Hid ((linesT s).length = n) := Lib.hid (by unfold linesT; rw [List.length_map, hn])
    have HRD := Lib.hid (Rd.own2 hown)
    have HSF : Hid (∀ g off, A = some ⟨g, off, none⟩ → Safe B vo vu w1 g) := Lib.hid (fun g off hA => by
      subst hA
      exact HR.out.newSafe (hown.lt g rfl).1 (hown.lt g rfl).2)
    have HEV := Lib.hid (linesT_each s)
    have hnb : n ≤ 4294967297 := by have h1 := joinL_count s; have h2 := HSL.out; rw [← hn]; omega
    clear hb1 hown he0 hn HRA HJ
    go_wp2_with fail
    go_loopw [21] (fun i wr => ∃ (j m' : Nat) (O' : List (List UInt8)) (vo' vu' : Value), j ≤ n ∧ i = .int .i64 (j : Int) ∧ m' ≤ 200 ∧ O'.length ≤ m' ∧ Hid (RdA lo B bm t op m' O' vo' vu' wr) ∧ Hid (Fr B vo vu w1 vo' vu' wr) ∧ Hid (readA t (d + 1) op s m O = stepsA t (readA t d) op ((linesT s).drop j) m' O')) (fun i _ => n - (intOf i).toNat)
    case atStart => exact ⟨0, m, O, vo, vu, by omega, rfl, hm, hO, HR1, Lib.hid (Fr.refl _ _ _ _), HRS⟩
    case round =>
      obtain ⟨j, m', O', vo', vu', hj, rfl, hm', hO', HRj, HFj, HSj⟩ := hrel
      by_cases hlt : j < n
      · obtain ⟨p, hp⟩ : ∃ p, (joinL 0 (linesN s))[j]? = some p := ⟨_, List.getElem?_eq_getElem (by have := HLN.out; unfold linesT at this; rw [List.length_map] at this; omega)⟩
        have hx : (linesT s)[j]? = some p.2 := by unfold linesT; rw [List.getElem?_map, hp]; rfl
        have hdr : (linesT s).drop j = p.2 :: (linesT s).drop (j + 1) := by
          obtain ⟨h1, h2⟩ := List.getElem?_eq_some_iff.1 hx
          rw [List.drop_eq_getElem_cons h1, h2]
        have HST := Lib.hid (HSj.out.trans (congrArg (fun q => stepsA t (readA t d) op q m' O') hdr))
        obtain ⟨hw0, hxl⟩ := HEV.out p.2 (List.mem_of_getElem? hx)
        have HXL : Hid (p.2.length ≤ 4294967296) := Lib.hid (by have := HSL.out; omega)
        obtain ⟨bl, off, rfl, l0, l1⟩ := (Rd.fr HRD.out HFj.out (fun g off hA _ => HSF.out g off hA)).lines hp
        have HWD := Lib.hid (fun V => show Calls Tryz.prog 82 #[.string ⟨p.2.toArray⟩] V _ from lnWords_any p.2 HXL.out V)
        have hwl := words_len p.2
        have HXM := Lib.hid (List.mem_of_getElem? hx)
        obtain ⟨at_, x⟩ := p
        dsimp only at *
        obtain ⟨bx, hbx⟩ : ∃ bx, (⟨x.toArray⟩ : ByteArray) = bx := ⟨_, rfl⟩
        have HBX := Lib.hid hbx
        rw [hbx] at l1 HWD
        obtain ⟨y0, ys, hws⟩ : ∃ y0 ys, wordsL x = y0 :: ys := by
          cases h : wordsL x with
          | nil => exact absurd h hw0
          | cons a b => exact ⟨a, b, rfl⟩
        have HWS := Lib.hid hws
        have HHD : Hid ((wordsL x).headD [] = y0) := Lib.hid (by rw [hws]; rfl)
        have HWE := Lib.hid (fun y (hy : y ∈ wordsL x) => words_each x y hy)
        obtain ⟨nw, hnw⟩ : ∃ nw, (wordsL x).length = nw := ⟨_, rfl⟩
        have HNW := Lib.hid hnw
        have hnw0 : 0 < nw := by rw [← hnw, hws]; simp
        have hnwb : nw ≤ 4294967297 := by rw [← hnw]; have := HXL.out; omega
        rw [hnw] at HWD
        have j0 : (0 : Int) ≤ (j : Int) := by omega
        have j1 : (j : Int) < (n : Int) := by omega
        have hb5 := below_new (Below.refl wr.heap.size wr) (.cells #[.int .i64 (at_ : Int), .string bx] 175)
        have HR5 := Lib.hid (HRj.out.below hb5)
        have HF5 := Lib.hid (HFj.out.below hb5)
        have HK5 := Lib.hid (Blk.new wr #[.int .i64 (at_ : Int), .string bx] 175)
        have HS5 := Lib.hid (HRj.out.newSafe (Nat.le_refl _) HK5.out.lt)
        clear hx hp hdr hw0 hxl hwl hbx hws hnw hb5
        go_upto_region 7 with fail
        generalize wr.alloc (.cells #[.int .i64 (at_ : Int), .string bx] 175) = w5 at *
        generalize wr.heap.size = k5 at *
        have m2 : w5.cell? ⟨B, 2, none⟩ = some (.int .i64 (m' : Int)) := HR5.out.box.cell (j := 2) rfl
        have mf := HR5.out.box.free 2
        have HR6 := Lib.hid (HR5.out.many (m' + 1))
        have HF6 := Lib.hid (HF5.out.setB 2 (.int .i64 ((m' + 1 : Nat) : Int)))
        have HS6 := Lib.hid (((Fr.refl B vo' vu' w5).setB 2 (.int .i64 ((m' + 1 : Nat) : Int))).safe HS5.out)
        have HK6 := Lib.hid (HK5.out.fr ((Fr.refl B vo' vu' w5).setB 2 (.int .i64 ((m' + 1 : Nat) : Int))) HS5.out)
        rw [show ((m' + 1 : Nat) : Int) = (m' : Int) + 1 by omega] at HR6 HF6 HS6 HK6
        clear l0 l1
        go_upto_region 8 with fail
        clear m2 mf HR5 HF5 HS5 HK5
        generalize w5.setCell ⟨B, 2, none⟩ (.int .i64 ((m' : Int) + 1)) = w6 at *
        have m2 : w6.cell? ⟨B, 2, none⟩ = some (.int .i64 ((m' : Int) + 1)) := HR6.out.box.cell (j := 2) rfl
        by_cases h200 : 200 < m' + 1
        · have q1 : decide ((200 : Int) < (m' : Int) + 1) = true := by simp; omega
          have HE : Hid (readA t (d + 1) op s m O = (2, 0, [])) := Lib.hid (by rw [HST.out]; exact stepsA_big h200)
          clear h200
          go_wp2_with fail
          go_ret
          exact ⟨m' + 1, O', vo', vu', by rw [HE.out]; rfl, HF1.out.trans HF6.out, HR6.out, fun h0 => by rw [HE.out] at h0; cases h0⟩
        · have q1 : decide ((200 : Int) < (m' : Int) + 1) = false := by simp; omega
          have H200 := Lib.hid h200
          have l1 := HK6.out.cell (j := 1) rfl
          clear h200
          go_wp2_with fail
          refine (HWD.out _).mono ?_
          rintro e w7 ⟨Aw, rfl, hown7, hb7⟩
          have HR7 := Lib.hid (HR6.out.below hb7)
          have HF7 := Lib.hid (HF6.out.below hb7)
          have HK7 := Lib.hid (HK6.out.below hb7 HK6.out.lt)
          have HS7 := Lib.hid ((Fr.of_below hb7).safe HS6.out)
          have HRW := Lib.hid (Rd.own2 hown7)
          have HSW := Lib.hid (HR6.out.newSafe (hown7.lt Aw rfl).1 (hown7.lt Aw rfl).2)
          clear hown7 hb7 m2 l1
          obtain ⟨bw2, off2, he2, w0c⟩ := (show Rd w7 (some ⟨Aw, 0, none⟩) ((wordsL x).map sv) from HRW.out).scell (k := 0) (x := y0) (by rw [HWS.out]; rfl)
          injection he2 with he2
          injection he2 with he3 he4 _
          subst he3 he4
          have heq := eq_sv y0 inclW
          have heq2 : (⟨inclW.toArray⟩ : ByteArray).toList = [105, 110, 99, 108, 117, 100, 101] := by rw [Lib.toList_data]; rfl
          generalize (⟨y0.toArray⟩ : ByteArray) = by0 at *
          have l1 := HK7.out.cell (j := 1) rfl
          by_cases hinc : y0 = inclW
          case neg =>
            have g1 : (by0.toList == (⟨#[105, 110, 99, 108, 117, 100, 101]⟩ : ByteArray).toList) = false := by rw [show (⟨#[105, 110, 99, 108, 117, 100, 101]⟩ : ByteArray) = ⟨inclW.toArray⟩ from rfl, heq]; exact decide_eq_false hinc
            have g2 : (by0.toList == [105, 110, 99, 108, 117, 100, 101]) = false := by rw [← heq2, heq]; exact decide_eq_false hinc
            have HNX : Hid (readA t (d + 1) op s m O = stepsA t (readA t d) op ((linesT s).drop (j + 1)) (m' + 1) (O' ++ [x])) := Lib.hid (by rw [HST.out]; exact stepsA_line H200.out (by rw [HHD.out]; exact hinc))
            clear heq heq2 hinc
            go_upto_region 12 with fail
            obtain ⟨Au, cu, hvu⟩ := slice_ofF HR7.out.out
            subst hvu
            obtain ⟨n0, hn0⟩ : ∃ n0, O'.length = n0 := ⟨_, rfl⟩
            have HN0 := Lib.hid hn0
            have hn20 : n0 ≤ 200 := by omega
            have HRD := Lib.hid HR7.out.drew
            have HFD := Lib.hid HF7.out.drew
            have HSD := Lib.hid ((Fr.refl B vo' (.slice Au O'.length cu) w7).drew.safe HS7.out)
            have d3 : w7.cell? ⟨B, 3, none⟩ = some (.slice Au O'.length cu) := HR7.out.box.cell (j := 3) rfl
            rw [hn0] at HRD HFD HSD d3
            have HSS : Hid (w7.drew.cell? ⟨B, 3, none⟩ = some (.slice Au n0 cu) ∧ w7.drew.cell? ⟨k5, 1, none⟩ = some (.string bx)) := Lib.hid ⟨d3, l1⟩
            clear d3 l1 w0c g1 g2 hn0 HR7 HF7 HS7 HK7 HRW HSW
            refine wp_region_x (fun V => V.cell? ⟨B, 3, none⟩ = some (.slice Au n0 cu) ∧ V.cell? ⟨k5, 1, none⟩ = some (.string bx)) 11 (by kernel_rfl) ?_
            generalize w7.drew = w8 at *
            have HSA : Hid ((w8.alloc (.cells #[.string bx] 9)).cell? ⟨B, 3, none⟩ = some (.slice Au n0 cu) ∧ (w8.alloc (.cells #[.string bx] 9)).cell? ⟨k5, 1, none⟩ = some (.string bx)) := Lib.hid ⟨cell_allocF HSS.out.1 _, cell_allocF HSS.out.2 _⟩
            refine wpAnyX_take (i := 0) (v := ?v0) rfl (by kernel_rfl) (by kernel_rfl) (by kernel_rfl) (by kernel_rfl) (fun _ _ _ h => h) (Or.inl ⟨by rfl, ?hy0⟩) HSS.out ?rest0
            case hy0 => (intro V hSw; (try dsimp only at hSw); obtain ⟨hS1, hS2⟩ := hSw; go_simp; try with_reducible rfl)
            refine wpAnyX_take (i := 1) (v := ?v1) rfl (by kernel_rfl) (by kernel_rfl) (by kernel_rfl) (by kernel_rfl) (fun _ _ _ h => h) (Or.inl ⟨by rfl, ?hy1⟩) HSS.out ?rest1
            case hy1 => (intro V hSw; (try dsimp only at hSw); obtain ⟨hS1, hS2⟩ := hSw; go_simp; try with_reducible rfl)
            refine wpAnyX_take (i := 2) (v := ?v2) rfl (by kernel_rfl) (by kernel_rfl) (by kernel_rfl) (by kernel_rfl) (fun _ _ _ h => h) (Or.inl ⟨by rfl, ?hy2⟩) HSS.out ?rest2
            case hy2 => (intro V hSw; (try dsimp only at hSw); obtain ⟨hS1, hS2⟩ := hSw; go_simp; try with_reducible rfl)
            refine wpAnyX_take (i := 3) (v := ?v3) rfl (by kernel_rfl) (by kernel_rfl) (by kernel_rfl) (by kernel_rfl) (fun _ _ _ h => h) (Or.inl ⟨by rfl, ?hy3⟩) HSS.out ?rest3
            case hy3 => (intro V hSw; (try dsimp only at hSw); obtain ⟨hS1, hS2⟩ := hSw; go_simp; try with_reducible rfl)
            refine wpAnyX_take (i := 4) (v := ?v4) rfl (by kernel_rfl) (by kernel_rfl) (by kernel_rfl) (by kernel_rfl) (fun _ _ _ h => h) (Or.inl ⟨by rfl, ?hy4⟩) HSS.out ?rest4
            case hy4 => (intro V hSw; (try dsimp only at hSw); obtain ⟨hS1, hS2⟩ := hSw; go_simp; try with_reducible rfl)
            refine wpAnyX_take (i := 5) (v := ?v5) rfl (by kernel_rfl) (by kernel_rfl) (by kernel_rfl) (by kernel_rfl) (fun _ _ _ h => h) (Or.inl ⟨by rfl, ?hy5⟩) HSS.out ?rest5
            case hy5 => (intro V hSw; (try dsimp only at hSw); obtain ⟨hS1, hS2⟩ := hSw; go_simp; try with_reducible rfl)
            refine wpAnyX_take (i := 6) (v := ?v6) rfl (by kernel_rfl) (by kernel_rfl) (by kernel_rfl) (by kernel_rfl) (fun _ _ _ h => h) (Or.inl ⟨by rfl, ?hy6⟩) HSS.out ?rest6
            case hy6 => (intro V hSw; (try dsimp only at hSw); obtain ⟨hS1, hS2⟩ := hSw; go_simp; try with_reducible rfl)
            refine wpAnyX_one (i := 7) (by kernel_rfl) rfl (fun K hK => ?_)
            rw [if_pos (by rfl)]
            go_simp
            refine hK _ _ (fun _ => HSA.out) ?_
            clear hK K
            refine wpAnyX_one (i := 8) (by kernel_rfl) rfl (fun K hK => ?_)
            refine step_pushOut w8 (.tmp 48) (.tmp 51) HRD.out HN0.out (by omega) (y := x) (u := .string bx) (by rw [← HBX.out]; rfl) rfl rfl (by simp [Act.eval]) (by simp [Act.eval]) ?_
            intro g9 c9 w9 hb9 hg9 hr9 hf9
            have t1 : w9.cell? ⟨B, 3, none⟩ = some (.slice Au n0 cu) := hb9.cell (j := 3) rfl
            have tf := hb9.free 3
            have hkk : w9.heap[k5]? = (w8.alloc (.cells #[.string bx] 9)).heap[k5]? := hg9.block _ (by simp; have := HSD.out.1; omega) (fun e => HSD.out.2.2.2 e.symm)
            have HS9 := Lib.hid (show w9.cell? ⟨B, 3, none⟩ = some (.slice Au n0 cu) ∧ w9.cell? ⟨k5, 1, none⟩ = some (.string bx) from ⟨t1, (World.cell?_of_block hkk).trans HSA.out.2⟩)
            have HR9 := Lib.hid hr9
            have HF9 := Lib.hid hf9
            clear hb9 hg9 hr9 hf9 hkk
            refine hK _ _ (fun _ => HS9.out) ?_
            clear hK K
            refine wpAnyX_one (i := 9) (by kernel_rfl) rfl (fun K hK => ?_)
            rw [if_pos (by rfl)]
            go_simp
            refine hK _ _ (fun _ => HS9.out) ?_
            clear hK K
            refine wpAnyX_take (i := 10) (v := ?v10) rfl (by kernel_rfl) (by kernel_rfl) (by kernel_rfl) (by kernel_rfl) (fun _ _ _ h => h) (Or.inl ⟨by rfl, ?hy10⟩) HS9.out ?rest10
            case hy10 => (intro V hSw; (try dsimp only at hSw); obtain ⟨hS1, hS2⟩ := hSw; go_simp; try with_reducible rfl)
            refine wpAnyX_one (i := 11) (by kernel_rfl) rfl (fun K hK => ?_)
            rw [if_pos (by rfl)]
            go_simp
            refine hK _ _ (fun h => absurd rfl h) ?_
            clear hK K
            refine wpAnyX_done (by kernel_rfl) ?_ _
            have HF10 := Lib.hid (HFD.out.trans HF9.out)
            clear t1 tf HS9 HSA HSS HF9 HFD HRD HSD
            generalize w9.setCell ⟨B, 3, none⟩ (.slice (some ⟨g9, 0, none⟩) (n0 + 1) c9) = w10 at *
            go_wp2_with fail
            go_roundw
            case rel => exact ⟨j + 1, m' + 1, O' ++ [x], vo', .slice (some ⟨g9, 0, none⟩) (n0 + 1) c9, by omega, by go_num, by have := H200.out; omega, by simp; omega, HR9, HF10, HNX⟩
            case measure => simp [intOf]; omega
          case pos =>
            have g1 : (by0.toList == (⟨#[105, 110, 99, 108, 117, 100, 101]⟩ : ByteArray).toList) = true := by rw [show (⟨#[105, 110, 99, 108, 117, 100, 101]⟩ : ByteArray) = ⟨inclW.toArray⟩ from rfl, heq]; exact decide_eq_true hinc
            have g2 : (by0.toList == [105, 110, 99, 108, 117, 100, 101]) = true := by rw [← heq2, heq]; exact decide_eq_true hinc
            have HNX : Hid (readA t (d + 1) op s m O = if (inclA t (readA t d) op (wordsL x) (m' + 1) O').1 ≠ 0 then ((inclA t (readA t d) op (wordsL x) (m' + 1) O').1, 0, []) else stepsA t (readA t d) op ((linesT s).drop (j + 1)) (inclA t (readA t d) op (wordsL x) (m' + 1) O').2.1 (inclA t (readA t d) op (wordsL x) (m' + 1) O').2.2) := Lib.hid (by rw [HST.out]; exact stepsA_incl H200.out (by rw [HHD.out]; exact hinc))
            have HMA := Lib.hid (fun h => inclA_many (t := t) (d := d) (op := op) (ws := wordsL x) (m := m' + 1) (O := O') (by have := H200.out; omega) (by omega) h)
            have HM7 := Lib.hid ((World.cell?_of_block (HF7.out.block _ (HR1.out.lowSafe HM.out.1 HM.out.2))).trans HM1.out)
            have HIC := Lib.hid (HINC.out (some ⟨Aw, 0, none⟩) nw nw (wordsL x) (m' + 1) O' vo' vu' w7 HR7.out (by have := H200.out; omega) (by omega) HM7.out HRW.out (fun g off hg => by injection hg with hg; injection hg with hg _ _; subst hg; exact HSW.out) HNW.out (fun y hy => by have := HWE.out y hy; have := HXL.out; have := HSL.out; have := (HEV.out x (by exact HXM.out)).2; omega) (by omega))
            generalize inclA t (readA t d) op (wordsL x) (m' + 1) O' = RI at *
            clear heq heq2 hinc l1
            go_wp2_with fail
            refine HIC.out.mono ?_
            rintro e w8 ⟨m2, O2, vo2, vu2, rfl, hf8, hr8, hres⟩
            have HF8 := Lib.hid (HF7.out.trans hf8)
            have HR8 := Lib.hid hr8
            have HRES := Lib.hid hres
            clear hf8 hr8 hres w0c g1 g2
            by_cases hz : RI.1 = 0
            · have hi : m2 = RI.2.1 ∧ O2 = RI.2.2 := HRES.out hz
              have HI := Lib.hid hi
              have HMB := Lib.hid (HMA.out hz)
              have HN2 : Hid (readA t (d + 1) op s m O = stepsA t (readA t d) op ((linesT s).drop (j + 1)) m2 O2) := Lib.hid (by rw [HNX.out, if_neg (fun e => e hz), hi.1, hi.2])
              have p1 : (((RI.1 : Nat) : Int) != 0) = false := by rw [hz]; rfl
              generalize ((RI.1 : Nat) : Int) = V at *
              clear hi hz
              go_wp2_with fail
              go_roundw
              case rel => exact ⟨j + 1, m2, O2, vo2, vu2, by omega, by go_num, by rw [HI.out.1]; exact HMB.out.1, by rw [HI.out.1, HI.out.2]; exact HMB.out.2, HR8, HF8, HN2⟩
              case measure => simp [intOf]; omega
            · have HE : Hid (readA t (d + 1) op s m O = (RI.1, 0, [])) := Lib.hid (by rw [HNX.out, if_pos hz])
              have HZ := Lib.hid hz
              have p1 : (((RI.1 : Nat) : Int) != 0) = true := by simp; omega
              generalize hv : ((RI.1 : Nat) : Int) = V at *
              have HV := Lib.hid hv
              clear hz hv
              go_wp2_with fail
              go_ret
              exact ⟨m2, O2, vo2, vu2, by rw [HE.out, ← HV.out]; rfl, HF1.out.trans HF8.out, HR8.out, fun h0 => by rw [HE.out] at h0; exact absurd h0 HZ.out⟩
      · obtain rfl : j = n := by omega
        have HE : Hid (readA t (d + 1) op s m O = (0, m', O')) := Lib.hid (by rw [HSj.out, List.drop_of_length_le (by rw [HLN.out]; exact Nat.le_refl _), stepsA])
        go_wp2_with fail
        go_ret
        exact ⟨m', O', vo', vu', by rw [HE.out]; rfl, HF1.out.trans HFj.out, HRj.out, fun _ => by rw [HE.out]; exact ⟨rfl, rfl⟩⟩
theorem rRead_any {t : List TxtT} {lo B bm : Nat} {mx : Int} (HT : TxtOk t) (hml : 1 < lo) (hmB : 1 ≠ B) : ∀ d, ReadDoes t lo B bm d mx
  | 0 => fun op s m O vo vu W _ hop _ _ _ _ => by have := hop.pos.1; omega
  | d + 1 => rRead_step HT (rRead_any HT hml hmB d) hml hmB
end Go.Proofs.YtoandhhkmkgmaaaGreatDoor
/- file.add at a pair of suffixes. -/
namespace Go.Proofs.YtoandhhkmkgmaaaGreatDoor
open Go.RowKit

theorem rowsF_inf {f : FileT} {L : List RSlot} {v0 v1 v3 u1 u2 : Value} {A : Option Addr} {n c g c' : Nat} {p : InfT} (hn : f.inf.length = n) (h1 : sv p.1 = u1) (h2 : sv p.2 = u2) :
    (rowsF f L v0 v1 (.slice A n c) v3).set 2 ⟨85, 2, .slice (some ⟨g, 0, none⟩) (n + 1) c', n + 1, macV f.inf ++ [u1, u2]⟩ = rowsF { f with inf := f.inf ++ [p] } L v0 v1 (.slice (some ⟨g, 0, none⟩) (n + 1) c') v3 := by
  subst h1 h2
  unfold rowsF macV
  simp [hn]
theorem addP_inf {f : FileT} {r : RuleT} {p : InfT} (h : phonyW ∉ r.1) (h2 : pairP (r.1.headD []) = some p) (h3 : r.1.length = 1 ∧ r.2.length = 0) : addP f r = (0, if p ∈ f.inf then f else { f with inf := f.inf ++ [p] }) := by
  unfold addP
  rw [if_neg h, h2]
  dsimp only
  rw [if_pos h3]
section
variable {lo B : Nat} {f : FileT} {L : List RSlot} {v0 v1 v2 v3 : Value} {W : World} (h : RowsAt lo B 27 (rowsF f L v0 v1 v2 v3) L W) (hL : rulesOf L = f.rul)
  {x : RSlot} (hx : RsIn x W) (hf : ∀ r ∈ rowsF f L v0 v1 v2 v3, farS x r.v.ownBlock) (hfB : farS x (some B))
include h hL hx hf hfB
set_option maxRecDepth 100000 in
set_option maxHeartbeats 4000000 in
theorem fAdd_inf (hi200 : f.inf.length ≤ 1048576) (hph : phonyW ∉ x.2.2.1) {t0 : List UInt8} (ht0 : x.2.2.1[0]? = some t0) (ht0l : t0.length ≤ 1048576) {p : InfT} (hp : pairP t0 = some p) (hl1 : x.2.2.1.length = 1) (hl0 : x.2.2.2.length = 0)
    (mx : Int) (hmx : W.cell? ⟨1, 0, none⟩ = some (.int .i64 mx)) (h0 : 1 < W.heap.size) : Calls Tryz.prog 38 #[.pointer (some ⟨B, 0, none⟩), .agg #[rsT x, rsN x]] W (AddPost lo B f L x W) := by
  have HB0 := Lib.hid (below_new (Below.refl W.heap.size W) (.cells #[rsT x, rsN x] 78))
  have HR0 := Lib.hid ((h.with hx hf hfB).below HB0.out)
  have HK0 := Lib.hid (Blk.new W #[rsT x, rsN x] 78)
  have HBW0 := Lib.hid ((ButLo.refl lo B W).below HB0.out h.top)
  have HL := Lib.hid hL
  have HX0 := Lib.hid (HR0.out.each x (by simp))
  have HI200 := Lib.hid hi200
  have HV3 : Hid (∀ g, v2.ownBlock = some g → g < W.heap.size) := Lib.hid (fun g hg => ((h.own ⟨85, 2, v2, f.inf.length, macV f.inf⟩ (by unfold rowsF; simp)).lt g hg).2)
  have CT := Lib.hid (slContains_any (c := x.1.2) x.2.2.1 phonyW _ HX0.out.t rfl HX0.out.tb)
  have htr : inL x.2.2.1 phonyW = false := by unfold inL; exact decide_eq_false hph
  rw [htr, show (⟨phonyW.toArray⟩ : ByteArray) = ⟨#[46, 80, 72, 79, 78, 89]⟩ from rfl] at CT
  have HC0 := Lib.hid (Rd.scell HX0.out.t ht0)
  have HCP := Lib.hid (fun W' (hb : Below W.heap.size W W') => (show Calls Tryz.prog 85 #[.string ⟨t0.toArray⟩] W' (PairPost t0 W') from fPair_any t0 ht0l mx W' (cell_belowF hmx h0 hb) (Nat.lt_of_lt_of_le h0 hb.size)))
  have HE : Hid (addP f x.2.2 = (0, if p ∈ f.inf then f else { f with inf := f.inf ++ [p] })) := Lib.hid (addP_inf hph (by
    have e : x.2.2.1.headD [] = t0 := by
      cases hh : x.2.2.1 with
      | nil => rw [hh] at ht0; cases ht0
      | cons a l => rw [hh] at ht0; injection ht0
    rw [e]; exact hp) ⟨hl1, hl0⟩)
  have HLT := Lib.hid (List.getElem?_eq_some_iff.1 ht0).1
  clear h hL hx hf hfB hi200 hph htr hmx h0 ht0 ht0l
  obtain ⟨⟨X1, xc1⟩, ⟨X2, xc2⟩, ts, ns⟩ := x
  simp only [rsT, rsN] at *
  obtain ⟨tl, htl⟩ : ∃ tl, ts.length = tl := ⟨_, rfl⟩
  obtain ⟨nl, hnl⟩ : ∃ nl, ns.length = nl := ⟨_, rfl⟩
  have HTL := Lib.hid htl
  have HNL := Lib.hid hnl
  have htl1 : 0 < tl := by rw [← htl]; exact HLT.out
  simp only [htl, hnl] at HK0 CT HR0 HBW0 HX0 HB0 HC0 hl1 hl0 ⊢
  have HL1 := Lib.hid hl1
  have HL0 := Lib.hid hl0
  clear hl1 hl0
  obtain ⟨tb, tq, rfl, hc0⟩ := HC0.out
  clear HC0
  simp only [Nat.add_zero] at hc0
  generalize hW0 : W.alloc (.cells #[.slice (some ⟨tb, tq, none⟩) tl xc1, .slice X2 nl xc2] 78) = W0 at *
  have HW0 := Lib.hid hW0
  have y0 : W0.cell? ⟨W.heap.size, 0, none⟩ = some (.slice (some ⟨tb, tq, none⟩) tl xc1) := HK0.out.cell (j := 0) rfl
  have y1 : W0.cell? ⟨W.heap.size, 1, none⟩ = some (.slice X2 nl xc2) := HK0.out.cell (j := 1) rfl
  clear hW0 htl hnl
  go_enter Tryz.func38, Tryz.ntmps38
  go_upto_region 1 with fail
  rw [HW0.out]
  generalize hk0 : W.heap.size = k0 at *
  have HK00 := Lib.hid hk0
  clear hk0
  go_wp2_with fail
  refine CT.out.mono ?_
  rintro e w1 ⟨rfl, rfl⟩
  go_wp2_with fail
  refine (HCP.out _ HB0.out).mono ?_
  rintro e w1 ⟨hb1, pa, pb, hab, rfl⟩
  have HB1 := Lib.hid (HB0.out.trans (hb1.mono (Nat.le_of_lt HK0.out.lt)))
  have HR1 := Lib.hid (HR0.out.below hb1)
  have HBW1 := Lib.hid (HBW0.out.below hb1 HR0.out.top)
  have HK1 := Lib.hid (HK0.out.below hb1 HK0.out.lt)
  obtain ⟨ba, hba⟩ : ∃ ba, sv pa = .string ba := ⟨_, rfl⟩
  obtain ⟨bb, hbb⟩ : ∃ bb, sv pb = .string bb := ⟨_, rfl⟩
  rw [hba, hbb]
  rw [hp] at hab ⊢
  have hpp : (pa, pb) = p := hab
  have HPP := Lib.hid hpp
  have hk7 : k0 < w1.heap.size := Nat.lt_of_lt_of_le HK0.out.lt hb1.size
  have HBA := Lib.hid hba
  have HBB := Lib.hid hbb
  clear hb1 hab hba hbb hp hpp
  simp only [Option.isSome_some]
  go_upto_region 14 with fail
  have hb2 : Below w1.heap.size w1 (w1.alloc (.cells #[.string ba, .string bb] 85)) := below_new (Below.refl w1.heap.size w1) _
  have HR2 := Lib.hid (HR1.out.below hb2)
  have HBW2 := Lib.hid (HBW1.out.below hb2 HR1.out.top)
  have HK2 := Lib.hid (HK1.out.below hb2 HK1.out.lt)
  have HK7 := Lib.hid (Blk.new w1 #[.string ba, .string bb] 85)
  clear hb2 HR1 HBW1 HK1 HB1 CT HCP HR0 HBW0 HX0 HK0 HB0 y0 y1 hc0
  generalize w1.alloc (.cells #[.string ba, .string bb] 85) = w2 at *
  generalize w1.heap.size = k7 at *
  obtain ⟨A2, c2, hv2⟩ := slice_ofF (HR2.out.own ⟨85, 2, v2, f.inf.length, macV f.inf⟩ (by unfold rowsF; simp))
  dsimp only at hv2
  subst hv2
  have y0 : w2.cell? ⟨k0, 0, none⟩ = some (.slice (some ⟨tb, tq, none⟩) tl xc1) := HK2.out.cell (j := 0) rfl
  have y1 : w2.cell? ⟨k0, 1, none⟩ = some (.slice X2 nl xc2) := HK2.out.cell (j := 1) rfl
  have m3 : w2.cell? ⟨B, 2, none⟩ = some (.slice A2 f.inf.length c2) := HR2.out.box.cell (j := 2) rfl
  have d0 : w2.cell? ⟨k7, 0, none⟩ = some (.string ba) := HK7.out.cell (j := 0) rfl
  have d1 : w2.cell? ⟨k7, 1, none⟩ = some (.string bb) := HK7.out.cell (j := 1) rfl
  have HRD := Lib.hid (Rd.own2 (HR2.out.own ⟨85, 2, .slice A2 f.inf.length c2, f.inf.length, macV f.inf⟩ (by unfold rowsF; simp)))
  have CC := Lib.hid (fun W' (hW : Below w2.heap.size w2 W') => slContainsI_any (c := c2) f.inf p W' (HRD.out.below hW) rfl (by have := HI200.out; omega))
  rw [← HPP.out] at CC
  dsimp only at CC
  rw [HBA.out, HBB.out] at CC
  obtain ⟨n2, hn2⟩ : ∃ n2, f.inf.length = n2 := ⟨_, rfl⟩
  have HN2 := Lib.hid hn2
  rw [hn2] at m3 HR2 HV3 CC
  have hn100 : n2 ≤ 1048576 := by rw [← hn2]; exact HI200.out
  have HRK : Hid ((rowsF f L v0 v1 (.slice A2 n2 c2) v3)[2]? = some ⟨85, 2, .slice A2 n2 c2, n2, macV f.inf⟩) := Lib.hid (by unfold rowsF; simp [HN2.out])
  have HVB : Hid (some k7 ≠ (Value.slice A2 n2 c2).ownBlock) := Lib.hid (fun e => by have := HV3.out k7 (e ▸ rfl); omega)
  have HSL : Hid (∀ W', Below w2.heap.size w2 W' → W'.cell? ⟨B, 2, none⟩ = some (.slice A2 n2 c2) ∧ W'.cell? ⟨k7, 0, none⟩ = some (.string ba) ∧ W'.cell? ⟨k7, 1, none⟩ = some (.string bb) ∧ Below w2.heap.size w2 W') := Lib.hid (fun W' hW => ⟨cell_kept m3 hW, cell_kept d0 hW, cell_kept d1 hW, hW⟩)
  clear hn2
  have hl1 := HL1.out
  have hl0 := HL0.out
  clear HL1 HL0
  have q1 : ((tl : Int) == 1) = true := by simp [hl1]
  have q2 : ((nl : Int) == 0) = true := by simp [hl0]
  clear hl1 hl0
  have b0 := Below.refl w2.heap.size w2
  have bd : Below w2.heap.size w2 w2.drew := Below.drew b0
  go_upto_region 15 with fail
  go_region_held3 (fun W' => W'.cell? ⟨B, 2, none⟩ = some (.slice A2 n2 c2) ∧ W'.cell? ⟨k7, 0, none⟩ = some (.string ba) ∧ W'.cell? ⟨k7, 1, none⟩ = some (.string bb) ∧ Below w2.heap.size w2 W')
    ((refine HSL.out _ ?_; first | assumption | exact Below.drew (by assumption)))
    ((first
      | (go_at_call 86; (with_reducible refine (CC.out _ (by assumption)).mono ?_); rintro e u1 ⟨rfl, h1⟩; have bu1 := below_then (by assumption) h1)))
  have HR3 := Lib.hid (HR2.out.below bu1)
  have HBW3 := Lib.hid (HBW2.out.below bu1 HR2.out.top)
  have m4 := cell_kept m3 bu1
  have d4 := cell_kept d0 bu1
  have d5 := cell_kept d1 bu1
  have y4 := cell_kept y0 bu1
  have y5 := cell_kept y1 bu1
  clear m3 d0 d1 y0 y1 HSL CC b0 bd HRD HR2 HBW2 HK2 HK7
  have HU1 := Lib.hid bu1
  clear h1 bu1
  by_cases hin : p ∈ f.inf
  · have hi : inI f.inf (pa, pb) = true := by rw [HPP.out]; exact decide_eq_true hin
    have HE2 : Hid (addP f (ts, ns) = (0, f)) := Lib.hid (by rw [HE.out, if_pos hin])
    rw [hi]
    clear hi hin
    go_wp2_with fail
    go_ret
    exact ⟨f, L, v0, v1, _, v3, by rw [HE2.out]; rfl, by rw [HE2.out], HL.out, HR3.out.sub (fun y hy => List.mem_append_left _ hy), HBW3.out, fun y hy => .inl hy⟩
  · have hi : inI f.inf (pa, pb) = false := by rw [HPP.out]; exact decide_eq_false hin
    have HE2 : Hid (addP f (ts, ns) = (0, { f with inf := f.inf ++ [p] })) := Lib.hid (by rw [HE.out, if_neg hin])
    rw [hi]
    clear hi hin
    have HSS : Hid (u1.drew.cell? ⟨B, 2, none⟩ = some (.slice A2 n2 c2) ∧ u1.drew.cell? ⟨k7, 0, none⟩ = some (.string ba) ∧ u1.drew.cell? ⟨k7, 1, none⟩ = some (.string bb)) := Lib.hid ⟨m4, d4, d5⟩
    have HSA : Hid ((u1.drew.alloc (.cells #[.string ba, .string bb] 85)).cell? ⟨B, 2, none⟩ = some (.slice A2 n2 c2) ∧ (u1.drew.alloc (.cells #[.string ba, .string bb] 85)).cell? ⟨k7, 0, none⟩ = some (.string ba) ∧ (u1.drew.alloc (.cells #[.string ba, .string bb] 85)).cell? ⟨k7, 1, none⟩ = some (.string bb)) := Lib.hid ⟨cell_allocF (w := u1.drew) m4 _, cell_allocF (w := u1.drew) d4 _, cell_allocF (w := u1.drew) d5 _⟩
    have HKS : Hid (∀ w9, (u1.drew.alloc (.cells #[.string ba, .string bb] 85)).grownBy w9 (Value.slice A2 n2 c2).ownBlock → w9.cell? ⟨k7, 0, none⟩ = some (.string ba) ∧ w9.cell? ⟨k7, 1, none⟩ = some (.string bb)) := Lib.hid (fun w9 hg => by
      have hb : w9.heap[k7]? = (u1.drew.alloc (.cells #[.string ba, .string bb] 85)).heap[k7]? := hg.block k7 (lt_of_cell' HSA.out.2.1) HVB.out
      exact ⟨(World.cell?_of_block hb).trans HSA.out.2.1, (World.cell?_of_block hb).trans HSA.out.2.2⟩)
    go_upto_region 16 with fail
    refine wp_region_x (fun W => W.cell? ⟨B, 2, none⟩ = some (.slice A2 n2 c2) ∧ W.cell? ⟨k7, 0, none⟩ = some (.string ba) ∧ W.cell? ⟨k7, 1, none⟩ = some (.string bb)) 10 (by kernel_rfl) ?_
    refine wpAnyX_take (i := 0) (v := ?v0) rfl (by kernel_rfl) (by kernel_rfl) (by kernel_rfl) (by kernel_rfl) (fun _ _ _ h => h) (Or.inl ⟨by rfl, ?hy0⟩) HSS.out ?rest0
    case hy0 => (intro W hSw; (try dsimp only at hSw); obtain ⟨hS1, hS2, hS3⟩ := hSw; go_simp; try with_reducible rfl)
    refine wpAnyX_take (i := 1) (v := ?v1) rfl (by kernel_rfl) (by kernel_rfl) (by kernel_rfl) (by kernel_rfl) (fun _ _ _ h => h) (Or.inl ⟨by rfl, ?hy1⟩) HSS.out ?rest1
    case hy1 => (intro W hSw; (try dsimp only at hSw); obtain ⟨hS1, hS2, hS3⟩ := hSw; go_simp; try with_reducible rfl)
    refine wpAnyX_take (i := 2) (v := ?v2) rfl (by kernel_rfl) (by kernel_rfl) (by kernel_rfl) (by kernel_rfl) (fun _ _ _ h => h) (Or.inl ⟨by rfl, ?hy2⟩) HSS.out ?rest2
    case hy2 => (intro W hSw; (try dsimp only at hSw); obtain ⟨hS1, hS2, hS3⟩ := hSw; go_simp; try with_reducible rfl)
    refine wpAnyX_take (i := 3) (v := ?v3) rfl (by kernel_rfl) (by kernel_rfl) (by kernel_rfl) (by kernel_rfl) (fun _ _ _ h => h) (Or.inl ⟨by rfl, ?hy3⟩) HSS.out ?rest3
    case hy3 => (intro W hSw; (try dsimp only at hSw); obtain ⟨hS1, hS2, hS3⟩ := hSw; go_simp; try with_reducible rfl)
    refine wpAnyX_take (i := 4) (v := ?v4) rfl (by kernel_rfl) (by kernel_rfl) (by kernel_rfl) (by kernel_rfl) (fun _ _ _ h => h) (Or.inl ⟨by rfl, ?hy4⟩) HSS.out ?rest4
    case hy4 => (intro W hSw; (try dsimp only at hSw); obtain ⟨hS1, hS2, hS3⟩ := hSw; go_simp; try with_reducible rfl)
    refine wpAnyX_take (i := 5) (v := ?v5) rfl (by kernel_rfl) (by kernel_rfl) (by kernel_rfl) (by kernel_rfl) (fun _ _ _ h => h) (Or.inl ⟨by rfl, ?hy5⟩) HSS.out ?rest5
    case hy5 => (intro W hSw; (try dsimp only at hSw); obtain ⟨hS1, hS2, hS3⟩ := hSw; go_simp; try with_reducible rfl)
    refine wpAnyX_one (i := 6) (by kernel_rfl) rfl (fun K hK => ?_)
    rw [if_pos (by rfl)]
    go_simp
    refine hK _ _ (fun _ => HSA.out) ?_
    clear hK K
    refine wpAnyX_one (i := 7) (by kernel_rfl) rfl (fun K hK => ?_)
    refine step_pushF u1.drew (.tmp 79) (.tmp 81) HR3.out.drew 2 elInfF A2 n2 c2 (macV f.inf) HRK.out #[.string ba, .string bb] rfl (by intro u hu; simp at hu; rcases hu with rfl | rfl <;> rfl) (by omega) (by omega) (N := []) (by simp) rfl rfl (by simp [Act.eval]) (by simp [Act.eval]) ?_
    intro g9 c9 w9 hb9 hg9 hr9 hw9
    have t1 : w9.cell? ⟨B, 2, none⟩ = some (.slice A2 n2 c2) := hb9.cell (j := 2) rfl
    have tf := hb9.free 2
    have HS9 := Lib.hid (show w9.cell? ⟨B, 2, none⟩ = some (.slice A2 n2 c2) ∧ w9.cell? ⟨k7, 0, none⟩ = some (.string ba) ∧ w9.cell? ⟨k7, 1, none⟩ = some (.string bb) from ⟨t1, HKS.out w9 hg9⟩)
    have HR9 := Lib.hid hr9
    have HW9 := Lib.hid hw9
    clear hb9 hg9 hr9 hw9
    refine hK _ _ (fun _ => HS9.out) ?_
    clear hK K
    refine wpAnyX_one (i := 8) (by kernel_rfl) rfl (fun K hK => ?_)
    rw [if_pos (by rfl)]
    go_simp
    refine hK _ _ (fun _ => HS9.out) ?_
    clear hK K
    refine wpAnyX_take (i := 9) (v := ?v9) rfl (by kernel_rfl) (by kernel_rfl) (by kernel_rfl) (by kernel_rfl) (fun _ _ _ h => h) (Or.inl ⟨by rfl, ?hy9⟩) HS9.out ?rest9
    case hy9 => (intro W hSw; (try dsimp only at hSw); obtain ⟨hS1, hS2, hS3⟩ := hSw; go_simp; try with_reducible rfl)
    refine wpAnyX_one (i := 10) (by kernel_rfl) rfl (fun K hK => ?_)
    rw [if_pos (by rfl)]
    go_simp
    refine hK _ _ (fun h => absurd rfl h) ?_
    clear hK K
    refine wpAnyX_done (by kernel_rfl) ?_ _
    have HQ : Hid (RowsAt lo B 27 (rowsF { f with inf := f.inf ++ [p] } L v0 v1 (.slice (some ⟨g9, 0, none⟩) (n2 + 1) c9) v3) L (w9.setCell ⟨B, 2, none⟩ (.slice (some ⟨g9, 0, none⟩) (n2 + 1) c9))) := Lib.hid (by
      have hh := HR9.out
      rw [List.append_nil] at hh
      rw [← rowsF_inf (A := A2) (c := c2) HN2.out (u1 := .string ba) (u2 := .string bb) (by rw [← HPP.out]; exact HBA.out) (by rw [← HPP.out]; exact HBB.out)]
      exact hh.sub (fun y hy => List.mem_append_left _ hy))
    have HWQ := Lib.hid (HBW3.out.drew.trans HW9.out)
    clear t1 tf m4 d4 d5 y4 y5 HR9 HW9 HS9 HSA HSS HKS HRK
    generalize w9.setCell ⟨B, 2, none⟩ (.slice (some ⟨g9, 0, none⟩) (n2 + 1) c9) = w10 at *
    go_wp2_with fail
    go_ret
    exact ⟨{ f with inf := f.inf ++ [p] }, L, v0, v1, _, v3, by rw [HE2.out]; rfl, by rw [HE2.out], HL.out, HQ.out, HWQ.out, fun y hy => .inl hy⟩
end
/-- file.add. -/
theorem fAdd_any {lo B : Nat} {f : FileT} {L : List RSlot} {v0 v1 v2 v3 : Value} {W : World} (h : RowsAt lo B 27 (rowsF f L v0 v1 v2 v3) L W) (hL : rulesOf L = f.rul)
    {x : RSlot} (hx : RsIn x W) (hf : ∀ r ∈ rowsF f L v0 v1 v2 v3, farS x r.v.ownBlock) (hfB : farS x (some B)) (hp20 : f.pho.length ≤ 20) (hr100 : f.rul.length ≤ 100) (hi200 : f.inf.length ≤ 1048576) (hns : x.2.2.2.length ≤ 1048576)
    {t0 : List UInt8} (ht0 : x.2.2.1[0]? = some t0) (ht0l : t0.length ≤ 1048576) (mx : Int) (hmx : W.cell? ⟨1, 0, none⟩ = some (.int .i64 mx)) (h0 : 1 < W.heap.size) :
    Calls Tryz.prog 38 #[.pointer (some ⟨B, 0, none⟩), .agg #[rsT x, rsN x]] W (AddPost lo B f L x W) := by
  by_cases hph : phonyW ∈ x.2.2.1
  · exact fAdd_ph h hL hx hf hfB hp20 hns hph
  · by_cases h2 : pairP t0 = none ∨ ¬ (x.2.2.1.length = 1 ∧ x.2.2.2.length = 0)
    · exact fAdd_rule h hL hx hf hfB hr100 hph ht0 ht0l h2 mx hmx h0
    · rw [not_or, Classical.not_not] at h2
      cases hp : pairP t0 with
      | none => exact absurd hp h2.1
      | some p => exact fAdd_inf h hL hx hf hfB hi200 hph ht0 ht0l hp h2.2.1 h2.2.2 mx hmx h0
end Go.Proofs.YtoandhhkmkgmaaaGreatDoor

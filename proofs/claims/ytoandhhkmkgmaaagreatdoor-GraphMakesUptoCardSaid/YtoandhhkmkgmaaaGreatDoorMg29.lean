/- Contracts that the law's proof leans on, and plain lemmas to them, merged. No condition beyond each contract's own hypotheses. -/
import Derived.Test.YtoandhhkmkgmaaaGreatDoorMg27
import Derived.Test.YtoandhhkmkgmaaaGreatDoorRegX
import Derived.Deep.AppendLies
namespace Go.Proofs.YtoandhhkmkgmaaaGreatDoor
open Go.RowKit

theorem addP_rule {f : FileT} {r : RuleT} (h : phonyW ∉ r.1) (h2 : pairP (r.1.headD []) = none ∨ ¬ (r.1.length = 1 ∧ r.2.length = 0)) : addP f r = (if 100 < f.rul.length + 1 then 2 else 0, { f with rul := f.rul ++ [r] }) := by
 unfold addP
 rw [if_neg h]
 cases hp : pairP (r.1.headD []) with
 | none => rfl
 | some p =>
   rcases h2 with h2 | h2
   ·rw [hp] at h2; cases h2
   ·dsimp only; rw [if_neg h2]
theorem step_pushF {ops : Array Oper} {o : Oper} {a : Act} {K : Act → World → Prop} {Q : Exit → Act → World → Prop} {F : Prop} (W : World) (s x : Operand) {lo B : Nat} {T : TypeId} {rows : List RowF} {L : List RSlot} (h : RowsAt lo B T rows L W) (k : Nat) {t e : TypeId} {z bytes : Nat} (E : ElF t e z bytes)
 (A : Option Addr) (n c : Nat) (xs : List Value) (hk : rows[k]? = some ⟨e, z, .slice A n c, n, xs⟩) (us : Array Value) (hul : us.size = z) (hu : ∀ u ∈ us.toList, u.oneCell' = true) (hn : (n + 1) * bytes ≤ 140737488355328) (hn' : n + 1 ≤ 140737488355328)
 {N : List RSlot} (hN : ∀ x ∈ N, RsIn x W ∧ (∀ r ∈ rows, farS x r.v.ownBlock) ∧ farS x (some B))
 (hgd : o.guard = none) (ho : o.op = .call { callee := .builtin .append, args := #[s, x], argTypes := #[t, t] })
 (hs : a.eval s = .slice A n c) (hx : a.eval x = .slice (some ⟨W.heap.size, 0, none⟩) 1 1)
 (hc : ∀ g c' w', Blk w' B T (rows.map (·.v)) → (W.alloc (.cells us e)).grownBy w' (Value.slice A n c).ownBlock → RowsAt lo B T (rows.set k ⟨e, z, .slice (some ⟨g, 0, none⟩) (n + 1) c', n + 1, xs ++ us.toList⟩) (L ++ N) (w'.setCell ⟨B, k, none⟩ (.slice (some ⟨g, 0, none⟩) (n + 1) c')) → ButLo lo B W (w'.setCell ⟨B, k, none⟩ (.slice (some ⟨g, 0, none⟩) (n + 1) c')) →
   K (a.put o.dst (.slice (some ⟨g, 0, none⟩) (n + 1) c')) w') :
 if Region.wanted o (yielded ops a.tmps) = true then Oper.wp Tryz.prog o a (W.alloc (.cells us e)) K Q else F := by
 obtain ⟨ht, ⟨i, v, hi, hz, h1, hb, hzs⟩, hp⟩ := E
 have hr := h.own _ (List.mem_of_getElem? hk)
 dsimp only at hr
 have htop := h.top
 have hB' : lo ≤ (W.alloc (.cells us e)).heap.size := by simp; omega
 have e1 : (W.alloc (.cells us e)).heap.size = W.heap.size + 1 := by simp
 refine step_append_lies _ hgd s x t ho lo e i v z bytes ht hi hz h1 hb hzs hp (.slice A n c) n xs hs (hr.alloc _) ⟨W.heap.size, 0, none⟩ 1 1 us.toList hx (by simp [hul]) ?_ hu (by decide) (by unfold maxLen; omega) hn hB' _ e1 ?_
 ·intro j y hj
  rw [Addr.add_lit, World.cell?_alloc_at _ _ _ _ rfl, Nat.zero_add]
  simpa using hj
 ·intro g cap w' hown' hg hor _
  have hor2 : (Value.slice (some ⟨g, 0, none⟩) (n + 1) cap).ownBlock = (Value.slice A n c).ownBlock ∨ (Value.slice (some ⟨g, 0, none⟩) (n + 1) cap).ownBlock = some (W.heap.size + 1) := by
   rcases hor with q | q
   ·exact .inl (by rw [q]; rfl)
   ·exact .inr (by rw [q]; rfl)
  refine hc g cap w' ?_ hg ?_ ?_
  ·unfold Blk
   have hBr : some B ≠ (Value.slice A n c).ownBlock := fun e => by have := own_lo hr B e.symm; have := h.blo; omega
   rw [hg.block B (by simp; have := h.box.lt; omega) hBr, Below.heap_alloc _ _ _ h.box.lt]
   exact h.box
  ·exact h.grow (r' := ⟨e, z, .slice (some ⟨g, 0, none⟩) (n + 1) cap, n + 1, xs ++ us.toList⟩) hk hg hown' hor2 hN
  ·exact (((ButLo.refl lo B W).below (below_new (Below.refl W.heap.size W) (.cells us e)) htop).grown hg (own_lo hr) hB').set _
theorem rowsF_rule {f : FileT} {L : List RSlot} {v0 v1 v2 u1 u2 : Value} {A : Option Addr} {n c g c' : Nat} {x : RSlot} {R : List RuleT} (hn : L.length = n) (h1 : rsT x = u1) (h2 : rsN x = u2) :
 (rowsF f L v0 v1 v2 (.slice A n c)).set 3 ⟨78, 2, .slice (some ⟨g, 0, none⟩) (n + 1) c', n + 1, rsV L ++ [u1, u2]⟩ = rowsF { f with rul := R } (L ++ [x]) v0 v1 v2 (.slice (some ⟨g, 0, none⟩) (n + 1) c') := by
 subst h1 h2
 unfold rowsF
 simp [rsV_snoc, hn]
theorem cell_allocF {w : World} {B o : Nat} {v : Value} (h : w.cell? ⟨B, o, none⟩ = some v) (ob : Obj) : (w.alloc ob).cell? ⟨B, o, none⟩ = some v := (World.cell?_of_block (Below.heap_alloc _ _ _ (lt_of_cell' h))).trans h
theorem ButLo.drew {lo B : Nat} {W W' : World} (h : ButLo lo B W W') : ButLo lo B W W'.drew := ⟨h.os, h.tape, h.output, h.size, h.block⟩
theorem RowsAt.drew {lo B : Nat} {T : TypeId} {rows : List RowF} {L : List RSlot} {W : World} (h : RowsAt lo B T rows L W) : RowsAt lo B T rows L W.drew := h.below (Below.drew (Below.refl _ _))
section
variable {lo B : Nat} {f : FileT} {L : List RSlot} {v0 v1 v2 v3 : Value} {W : World} (h : RowsAt lo B 27 (rowsF f L v0 v1 v2 v3) L W) (hL : rulesOf L = f.rul)
 {x : RSlot} (hx : RsIn x W) (hf : ∀ r ∈ rowsF f L v0 v1 v2 v3, farS x r.v.ownBlock) (hfB : farS x (some B))
include h hL hx hf hfB
set_option maxRecDepth 100000 in
set_option maxHeartbeats 4000000 in
theorem fAdd_rule (hr100 : f.rul.length ≤ 100) (hph : phonyW ∉ x.2.2.1) {t0 : List UInt8} (ht0 : x.2.2.1[0]? = some t0) (ht0l : t0.length ≤ 1048576) (h2 : pairP t0 = none ∨ ¬ (x.2.2.1.length = 1 ∧ x.2.2.2.length = 0))
 (mx : Int) (hmx : W.cell? ⟨1, 0, none⟩ = some (.int .i64 mx)) (h0 : 1 < W.heap.size) : Calls Tryz.prog 38 #[.pointer (some ⟨B, 0, none⟩), .agg #[rsT x, rsN x]] W (AddPost lo B f L x W) := by
 have HB0 := Lib.hid (below_new (Below.refl W.heap.size W) (.cells #[rsT x, rsN x] 78))
 have HR0 := Lib.hid ((h.with hx hf hfB).below HB0.out)
 have HK0 := Lib.hid (Blk.new W #[rsT x, rsN x] 78)
 have HBW0 := Lib.hid ((ButLo.refl lo B W).below HB0.out h.top)
 have HL := Lib.hid hL
 have HX0 := Lib.hid (HR0.out.each x (by simp))
 have HR100 := Lib.hid hr100
 have HV3 : Hid (∀ g, v3.ownBlock = some g → g < W.heap.size) := Lib.hid (fun g hg => ((h.own ⟨78, 2, v3, L.length, rsV L⟩ (by unfold rowsF; simp)).lt g hg).2)
 have CT := Lib.hid (slContains_any (c := x.1.2) x.2.2.1 phonyW _ HX0.out.t rfl HX0.out.tb)
 have htr : inL x.2.2.1 phonyW = false := by unfold inL; exact decide_eq_false hph
 rw [htr, show (⟨phonyW.toArray⟩ : ByteArray) = ⟨#[46, 80, 72, 79, 78, 89]⟩ from rfl] at CT
 have HC0 := Lib.hid (Rd.scell HX0.out.t ht0)
 have HCP := Lib.hid (fun W' (hb : Below W.heap.size W W') => (show Calls Tryz.prog 85 #[.string ⟨t0.toArray⟩] W' (PairPost t0 W') from fPair_any t0 ht0l mx W' (cell_belowF hmx h0 hb) (Nat.lt_of_lt_of_le h0 hb.size)))
 have HE : Hid (addP f x.2.2 = (if 100 < f.rul.length + 1 then 2 else 0, { f with rul := f.rul ++ [x.2.2] })) := Lib.hid (addP_rule hph (by
  have e : x.2.2.1.headD [] = t0 := by
   cases hh : x.2.2.1 with
   | nil => rw [hh] at ht0; cases ht0
   | cons a l => rw [hh] at ht0; injection ht0
  rw [e]; exact h2))
 have HLT := Lib.hid (List.getElem?_eq_some_iff.1 ht0).1
 clear h hL hx hf hfB hr100 hph htr hmx h0 ht0 ht0l
 obtain ⟨⟨X1, xc1⟩, ⟨X2, xc2⟩, ts, ns⟩ := x
 simp only [rsT, rsN] at *
 obtain ⟨tl, htl⟩ : ∃ tl, ts.length = tl := ⟨_, rfl⟩
 obtain ⟨nl, hnl⟩ : ∃ nl, ns.length = nl := ⟨_, rfl⟩
 have HTL := Lib.hid htl
 have HNL := Lib.hid hnl
 have htl1 : 0 < tl := by rw [← htl]; exact HLT.out
 simp only [htl, hnl] at HK0 CT HR0 HBW0 HX0 HB0 HC0 h2 ⊢
 obtain ⟨tb, tq, rfl, hc0⟩ := HC0.out
 clear HC0
 simp only [Nat.add_zero] at hc0
 generalize hW0 : W.alloc (.cells #[.slice (some ⟨tb, tq, none⟩) tl xc1, .slice X2 nl xc2] 78) = W0 at *
 have HW0 := Lib.hid hW0
 have y0 : W0.cell? ⟨W.heap.size, 0, none⟩ = some (.slice (some ⟨tb, tq, none⟩) tl xc1) := HK0.out.cell (j := 0) rfl
 have y1 : W0.cell? ⟨W.heap.size, 1, none⟩ = some (.slice X2 nl xc2) := HK0.out.cell (j := 1) rfl
 clear hW0 htl hnl
 go_enter Tryz.func38, Tryz.ntmps38
 go_upto_region 1 with fail
 rw [HW0.out]
 generalize hk0 : W.heap.size = k0 at *
 have HK00 := Lib.hid hk0
 clear hk0
 go_wp2_with fail
 refine CT.out.mono ?_
 rintro e w1 ⟨rfl, rfl⟩
 go_wp2_with fail
 refine (HCP.out _ HB0.out).mono ?_
 rintro e w1 ⟨hb1, pa, pb, hab, rfl⟩
 have HB1 := Lib.hid (HB0.out.trans (hb1.mono (Nat.le_of_lt HK0.out.lt)))
 have HR1 := Lib.hid (HR0.out.below hb1)
 have HBW1 := Lib.hid (HBW0.out.below hb1 HR0.out.top)
 have HK1 := Lib.hid (HK0.out.below hb1 HK0.out.lt)
 obtain ⟨ba, hba⟩ : ∃ ba, sv pa = .string ba := ⟨_, rfl⟩
 obtain ⟨bb, hbb⟩ : ∃ bb, sv pb = .string bb := ⟨_, rfl⟩
 rw [hba, hbb]
 clear hb1 hab hba hbb
 go_upto_region 14 with fail
 have hb2 : Below w1.heap.size w1 (w1.alloc (.cells #[.string ba, .string bb] 85)) := below_new (Below.refl w1.heap.size w1) _
 have HR2 := Lib.hid ((HR1.out.below hb2).drew)
 have HBW2 := Lib.hid ((HBW1.out.below hb2 HR1.out.top).drew)
 have HK2 := Lib.hid (HK1.out.below hb2 HK1.out.lt)
 clear hb2 HR1 HBW1 HK1 HB1 CT HCP HR0 HBW0 HX0 HK0 HB0 y0 y1 hc0
 generalize w1.alloc (.cells #[.string ba, .string bb] 85) = w2 at *
 generalize w1.heap.size = k7 at *
 obtain ⟨A3, c3, hv3⟩ := slice_ofF (HR2.out.own ⟨78, 2, v3, L.length, rsV L⟩ (by unfold rowsF; simp))
 dsimp only at hv3
 subst hv3
 have y0 : w2.cell? ⟨k0, 0, none⟩ = some (.slice (some ⟨tb, tq, none⟩) tl xc1) := HK2.out.cell (j := 0) rfl
 have y1 : w2.cell? ⟨k0, 1, none⟩ = some (.slice X2 nl xc2) := HK2.out.cell (j := 1) rfl
 have m3 : w2.cell? ⟨B, 3, none⟩ = some (.slice A3 L.length c3) := HR2.out.box.cell (j := 3) rfl
 have HLE : Hid (L.length = f.rul.length) := Lib.hid (by rw [← HL.out]; unfold rulesOf; simp)
 obtain ⟨n3, hn3⟩ : ∃ n3, L.length = n3 := ⟨_, rfl⟩
 have HN3 := Lib.hid hn3
 rw [hn3] at m3 HLE HR2 HV3
 have hn100 : n3 ≤ 100 := by rw [HLE.out]; exact HR100.out
 have HRK : Hid ((rowsF f L v0 v1 v2 (.slice A3 n3 c3))[3]? = some ⟨78, 2, .slice A3 n3 c3, n3, rsV L⟩) := Lib.hid (by unfold rowsF; simp [HN3.out])
 have HVB : Hid (some k0 ≠ (Value.slice A3 n3 c3).ownBlock) := Lib.hid (fun e => by have := HV3.out k0 (e ▸ rfl); omega)
 have HSS : Hid (w2.drew.cell? ⟨B, 3, none⟩ = some (.slice A3 n3 c3) ∧ w2.drew.cell? ⟨k0, 0, none⟩ = some (.slice (some ⟨tb, tq, none⟩) tl xc1) ∧ w2.drew.cell? ⟨k0, 1, none⟩ = some (.slice X2 nl xc2)) := Lib.hid ⟨m3, y0, y1⟩
 have HSA : Hid ((w2.drew.alloc (.cells #[.slice (some ⟨tb, tq, none⟩) tl xc1, .slice X2 nl xc2] 78)).cell? ⟨B, 3, none⟩ = some (.slice A3 n3 c3) ∧ (w2.drew.alloc (.cells #[.slice (some ⟨tb, tq, none⟩) tl xc1, .slice X2 nl xc2] 78)).cell? ⟨k0, 0, none⟩ = some (.slice (some ⟨tb, tq, none⟩) tl xc1) ∧ (w2.drew.alloc (.cells #[.slice (some ⟨tb, tq, none⟩) tl xc1, .slice X2 nl xc2] 78)).cell? ⟨k0, 1, none⟩ = some (.slice X2 nl xc2)) := Lib.hid ⟨cell_allocF (w := w2.drew) m3 _, cell_allocF (w := w2.drew) y0 _, cell_allocF (w := w2.drew) y1 _⟩
 have HKS : Hid (∀ w9, (w2.drew.alloc (.cells #[.slice (some ⟨tb, tq, none⟩) tl xc1, .slice X2 nl xc2] 78)).grownBy w9 (Value.slice A3 n3 c3).ownBlock → w9.cell? ⟨k0, 0, none⟩ = some (.slice (some ⟨tb, tq, none⟩) tl xc1) ∧ w9.cell? ⟨k0, 1, none⟩ = some (.slice X2 nl xc2)) := Lib.hid (fun w9 hg => by
  have hb : w9.heap[k0]? = (w2.drew.alloc (.cells #[.slice (some ⟨tb, tq, none⟩) tl xc1, .slice X2 nl xc2] 78)).heap[k0]? := hg.block k0 (lt_of_cell' HSA.out.2.1) HVB.out
  exact ⟨(World.cell?_of_block hb).trans HSA.out.2.1, (World.cell?_of_block hb).trans HSA.out.2.2⟩)
 clear hn3
 have hcase : (pairP t0).isSome = false ∨ ((pairP t0).isSome = true ∧ ((tl : Int) == 1) = false) ∨ ((pairP t0).isSome = true ∧ ((tl : Int) == 1) = true ∧ ((nl : Int) == 0) = false) := by
  rcases h2 with h2 | h2
  ·left; rw [h2]; rfl
  ·cases (pairP t0).isSome
   ·exact .inl rfl
   ·right
    by_cases h1 : tl = 1
    ·exact .inr ⟨rfl, by simp [h1], by simp; omega⟩
    ·exact .inl ⟨rfl, by simp; omega⟩
 clear h2
 generalize (pairP t0).isSome = ps at *
 rcases hcase with rfl | ⟨rfl, q1⟩ | ⟨rfl, q1, q2⟩
 ·go_upto_region 18 with fail
  refine wp_region_x (fun W => W.cell? ⟨B, 3, none⟩ = some (.slice A3 n3 c3) ∧ W.cell? ⟨k0, 0, none⟩ = some (.slice (some ⟨tb, tq, none⟩) tl xc1) ∧ W.cell? ⟨k0, 1, none⟩ = some (.slice X2 nl xc2)) 10 (by kernel_rfl) ?_
  refine wpAnyX_take (i := 0) (v := ?v0a) rfl (by kernel_rfl) (by kernel_rfl) (by kernel_rfl) (by kernel_rfl) (fun _ _ _ h => h) (Or.inl ⟨by rfl, ?hy0a⟩) HSS.out ?rest0a
  case hy0a => (intro W hSw; (try dsimp only at hSw); obtain ⟨hS1, hS2, hS3⟩ := hSw; go_simp; try with_reducible rfl)
  refine wpAnyX_take (i := 1) (v := ?v1a) rfl (by kernel_rfl) (by kernel_rfl) (by kernel_rfl) (by kernel_rfl) (fun _ _ _ h => h) (Or.inl ⟨by rfl, ?hy1a⟩) HSS.out ?rest1a
  case hy1a => (intro W hSw; (try dsimp only at hSw); obtain ⟨hS1, hS2, hS3⟩ := hSw; go_simp; try with_reducible rfl)
  refine wpAnyX_take (i := 2) (v := ?v2a) rfl (by kernel_rfl) (by kernel_rfl) (by kernel_rfl) (by kernel_rfl) (fun _ _ _ h => h) (Or.inl ⟨by rfl, ?hy2a⟩) HSS.out ?rest2a
  case hy2a => (intro W hSw; (try dsimp only at hSw); obtain ⟨hS1, hS2, hS3⟩ := hSw; go_simp; try with_reducible rfl)
  refine wpAnyX_take (i := 3) (v := ?v3a) rfl (by kernel_rfl) (by kernel_rfl) (by kernel_rfl) (by kernel_rfl) (fun _ _ _ h => h) (Or.inl ⟨by rfl, ?hy3a⟩) HSS.out ?rest3a
  case hy3a => (intro W hSw; (try dsimp only at hSw); obtain ⟨hS1, hS2, hS3⟩ := hSw; go_simp; try with_reducible rfl)
  refine wpAnyX_take (i := 4) (v := ?v4a) rfl (by kernel_rfl) (by kernel_rfl) (by kernel_rfl) (by kernel_rfl) (fun _ _ _ h => h) (Or.inl ⟨by rfl, ?hy4a⟩) HSS.out ?rest4a
  case hy4a => (intro W hSw; (try dsimp only at hSw); obtain ⟨hS1, hS2, hS3⟩ := hSw; go_simp; try with_reducible rfl)
  refine wpAnyX_take (i := 5) (v := ?v5a) rfl (by kernel_rfl) (by kernel_rfl) (by kernel_rfl) (by kernel_rfl) (fun _ _ _ h => h) (Or.inl ⟨by rfl, ?hy5a⟩) HSS.out ?rest5a
  case hy5a => (intro W hSw; (try dsimp only at hSw); obtain ⟨hS1, hS2, hS3⟩ := hSw; go_simp; try with_reducible rfl)
  refine wpAnyX_one (i := 6) (by kernel_rfl) rfl (fun K hK => ?_)
  rw [if_pos (by rfl)]
  go_simp
  refine hK _ _ (fun _ => HSA.out) ?_
  clear hK K
  refine wpAnyX_one (i := 7) (by kernel_rfl) rfl (fun K hK => ?_)
  refine step_pushF w2.drew (.tmp 89) (.tmp 91) HR2.out 3 elRulF A3 n3 c3 (rsV L) HRK.out #[.slice (some ⟨tb, tq, none⟩) tl xc1, .slice X2 nl xc2] rfl (by intro u hu; simp at hu; rcases hu with rfl | rfl <;> rfl) (by omega) (by omega) (N := []) (by simp) rfl rfl (by simp [Act.eval]) (by simp [Act.eval]) ?_
  intro g9 c9 w9 hb9 hg9 hr9 hw9
  have t1 : w9.cell? ⟨B, 3, none⟩ = some (.slice A3 n3 c3) := hb9.cell (j := 3) rfl
  have tf := hb9.free 3
  have HS9 := Lib.hid (show w9.cell? ⟨B, 3, none⟩ = some (.slice A3 n3 c3) ∧ w9.cell? ⟨k0, 0, none⟩ = some (.slice (some ⟨tb, tq, none⟩) tl xc1) ∧ w9.cell? ⟨k0, 1, none⟩ = some (.slice X2 nl xc2) from ⟨t1, HKS.out w9 hg9⟩)
  have HR9 := Lib.hid hr9
  have HW9 := Lib.hid hw9
  clear hb9 hg9 hr9 hw9
  refine hK _ _ (fun _ => HS9.out) ?_
  clear hK K
  refine wpAnyX_one (i := 8) (by kernel_rfl) rfl (fun K hK => ?_)
  rw [if_pos (by rfl)]
  go_simp
  refine hK _ _ (fun _ => HS9.out) ?_
  clear hK K
  refine wpAnyX_take (i := 9) (v := ?v9a) rfl (by kernel_rfl) (by kernel_rfl) (by kernel_rfl) (by kernel_rfl) (fun _ _ _ h => h) (Or.inl ⟨by rfl, ?hy9a⟩) HS9.out ?rest9a
  case hy9a => (intro W hSw; (try dsimp only at hSw); obtain ⟨hS1, hS2, hS3⟩ := hSw; go_simp; try with_reducible rfl)
  refine wpAnyX_one (i := 10) (by kernel_rfl) rfl (fun K hK => ?_)
  rw [if_pos (by rfl)]
  go_simp
  refine hK _ _ (fun h => absurd rfl h) ?_
  clear hK K
  refine wpAnyX_done (by kernel_rfl) ?_ _
  have HQ : Hid (RowsAt lo B 27 (rowsF { f with rul := f.rul ++ [(ts, ns)] } (L ++ [((some ⟨tb, tq, none⟩, xc1), (X2, xc2), ts, ns)]) v0 v1 v2 (.slice (some ⟨g9, 0, none⟩) (n3 + 1) c9)) (L ++ [((some ⟨tb, tq, none⟩, xc1), (X2, xc2), ts, ns)]) (w9.setCell ⟨B, 3, none⟩ (.slice (some ⟨g9, 0, none⟩) (n3 + 1) c9))) := Lib.hid (by
   have hh := HR9.out
   rw [List.append_nil] at hh
   rw [← rowsF_rule (A := A3) (c := c3) HN3.out (u1 := .slice (some ⟨tb, tq, none⟩) tl xc1) (u2 := .slice X2 nl xc2) (by unfold rsT; rw [← HTL.out]) (by unfold rsN; rw [← HNL.out])]
   exact hh)
  have HWQ := Lib.hid (HBW2.out.trans HW9.out)
  have HRU : Hid (rulesOf (L ++ [((some ⟨tb, tq, none⟩, xc1), (X2, xc2), ts, ns)]) = f.rul ++ [(ts, ns)]) := Lib.hid (by rw [← HL.out]; unfold rulesOf; simp)
  have z3 : (w9.setCell ⟨B, 3, none⟩ (.slice (some ⟨g9, 0, none⟩) (n3 + 1) c9)).cell? ⟨B, 3, none⟩ = some (.slice (some ⟨g9, 0, none⟩) (n3 + 1) c9) := HQ.out.box.cell (j := 3) rfl
  clear t1 tf m3 y0 y1 HR9 HW9 HS9 HSA HSS HKS HRK
  generalize w9.setCell ⟨B, 3, none⟩ (.slice (some ⟨g9, 0, none⟩) (n3 + 1) c9) = w10 at *
  have HN4 : Hid (f.rul.length + 1 = n3 + 1) := Lib.hid (by rw [← HLE.out])
  by_cases h100 : 100 < n3 + 1
  ·have p1 : decide ((100 : Int) < (n3 : Int) + 1) = true := by simp; omega
   have p2 : (100 : Int) < (n3 : Int) + 1 := by omega
   have HE2 : Hid (addP f (ts, ns) = (2, { f with rul := f.rul ++ [(ts, ns)] })) := Lib.hid (by rw [HE.out, HN4.out, if_pos h100])
   clear h100
   go_wp2_with fail
   go_ret
   exact ⟨_, _, v0, v1, v2, _, by rw [HE2.out]; rfl, by rw [HE2.out], HRU.out, HQ.out, HWQ.out, fun y hy => (List.mem_append.1 hy).imp id (fun h => List.mem_singleton.1 h)⟩
  ·have p1 : decide ((100 : Int) < (n3 : Int) + 1) = false := by simp; omega
   have p2 : ¬ (100 : Int) < (n3 : Int) + 1 := by omega
   have HE2 : Hid (addP f (ts, ns) = (0, { f with rul := f.rul ++ [(ts, ns)] })) := Lib.hid (by rw [HE.out, HN4.out, if_neg h100])
   clear h100
   go_wp2_with fail
   go_ret
   exact ⟨_, _, v0, v1, v2, _, by rw [HE2.out]; rfl, by rw [HE2.out], HRU.out, HQ.out, HWQ.out, fun y hy => (List.mem_append.1 hy).imp id (fun h => List.mem_singleton.1 h)⟩
 ·go_upto_region 18 with fail
  refine wp_region_x (fun W => W.cell? ⟨B, 3, none⟩ = some (.slice A3 n3 c3) ∧ W.cell? ⟨k0, 0, none⟩ = some (.slice (some ⟨tb, tq, none⟩) tl xc1) ∧ W.cell? ⟨k0, 1, none⟩ = some (.slice X2 nl xc2)) 10 (by kernel_rfl) ?_
  refine wpAnyX_take (i := 0) (v := ?v0b) rfl (by kernel_rfl) (by kernel_rfl) (by kernel_rfl) (by kernel_rfl) (fun _ _ _ h => h) (Or.inl ⟨by rfl, ?hy0b⟩) HSS.out ?rest0b
  case hy0b => (intro W hSw; (try dsimp only at hSw); obtain ⟨hS1, hS2, hS3⟩ := hSw; go_simp; try with_reducible rfl)
  refine wpAnyX_take (i := 1) (v := ?v1b) rfl (by kernel_rfl) (by kernel_rfl) (by kernel_rfl) (by kernel_rfl) (fun _ _ _ h => h) (Or.inl ⟨by rfl, ?hy1b⟩) HSS.out ?rest1b
  case hy1b => (intro W hSw; (try dsimp only at hSw); obtain ⟨hS1, hS2, hS3⟩ := hSw; go_simp; try with_reducible rfl)
  refine wpAnyX_take (i := 2) (v := ?v2b) rfl (by kernel_rfl) (by kernel_rfl) (by kernel_rfl) (by kernel_rfl) (fun _ _ _ h => h) (Or.inl ⟨by rfl, ?hy2b⟩) HSS.out ?rest2b
  case hy2b => (intro W hSw; (try dsimp only at hSw); obtain ⟨hS1, hS2, hS3⟩ := hSw; go_simp; try with_reducible rfl)
  refine wpAnyX_take (i := 3) (v := ?v3b) rfl (by kernel_rfl) (by kernel_rfl) (by kernel_rfl) (by kernel_rfl) (fun _ _ _ h => h) (Or.inl ⟨by rfl, ?hy3b⟩) HSS.out ?rest3b
  case hy3b => (intro W hSw; (try dsimp only at hSw); obtain ⟨hS1, hS2, hS3⟩ := hSw; go_simp; try with_reducible rfl)
  refine wpAnyX_take (i := 4) (v := ?v4b) rfl (by kernel_rfl) (by kernel_rfl) (by kernel_rfl) (by kernel_rfl) (fun _ _ _ h => h) (Or.inl ⟨by rfl, ?hy4b⟩) HSS.out ?rest4b
  case hy4b => (intro W hSw; (try dsimp only at hSw); obtain ⟨hS1, hS2, hS3⟩ := hSw; go_simp; try with_reducible rfl)
  refine wpAnyX_take (i := 5) (v := ?v5b) rfl (by kernel_rfl) (by kernel_rfl) (by kernel_rfl) (by kernel_rfl) (fun _ _ _ h => h) (Or.inl ⟨by rfl, ?hy5b⟩) HSS.out ?rest5b
  case hy5b => (intro W hSw; (try dsimp only at hSw); obtain ⟨hS1, hS2, hS3⟩ := hSw; go_simp; try with_reducible rfl)
  refine wpAnyX_one (i := 6) (by kernel_rfl) rfl (fun K hK => ?_)
  rw [if_pos (by rfl)]
  go_simp
  refine hK _ _ (fun _ => HSA.out) ?_
  clear hK K
  refine wpAnyX_one (i := 7) (by kernel_rfl) rfl (fun K hK => ?_)
  refine step_pushF w2.drew (.tmp 89) (.tmp 91) HR2.out 3 elRulF A3 n3 c3 (rsV L) HRK.out #[.slice (some ⟨tb, tq, none⟩) tl xc1, .slice X2 nl xc2] rfl (by intro u hu; simp at hu; rcases hu with rfl | rfl <;> rfl) (by omega) (by omega) (N := []) (by simp) rfl rfl (by simp [Act.eval]) (by simp [Act.eval]) ?_
  intro g9 c9 w9 hb9 hg9 hr9 hw9
  have t1 : w9.cell? ⟨B, 3, none⟩ = some (.slice A3 n3 c3) := hb9.cell (j := 3) rfl
  have tf := hb9.free 3
  have HS9 := Lib.hid (show w9.cell? ⟨B, 3, none⟩ = some (.slice A3 n3 c3) ∧ w9.cell? ⟨k0, 0, none⟩ = some (.slice (some ⟨tb, tq, none⟩) tl xc1) ∧ w9.cell? ⟨k0, 1, none⟩ = some (.slice X2 nl xc2) from ⟨t1, HKS.out w9 hg9⟩)
  have HR9 := Lib.hid hr9
  have HW9 := Lib.hid hw9
  clear hb9 hg9 hr9 hw9
  refine hK _ _ (fun _ => HS9.out) ?_
  clear hK K
  refine wpAnyX_one (i := 8) (by kernel_rfl) rfl (fun K hK => ?_)
  rw [if_pos (by rfl)]
  go_simp
  refine hK _ _ (fun _ => HS9.out) ?_
  clear hK K
  refine wpAnyX_take (i := 9) (v := ?v9b) rfl (by kernel_rfl) (by kernel_rfl) (by kernel_rfl) (by kernel_rfl) (fun _ _ _ h => h) (Or.inl ⟨by rfl, ?hy9b⟩) HS9.out ?rest9b
  case hy9b => (intro W hSw; (try dsimp only at hSw); obtain ⟨hS1, hS2, hS3⟩ := hSw; go_simp; try with_reducible rfl)
  refine wpAnyX_one (i := 10) (by kernel_rfl) rfl (fun K hK => ?_)
  rw [if_pos (by rfl)]
  go_simp
  refine hK _ _ (fun h => absurd rfl h) ?_
  clear hK K
  refine wpAnyX_done (by kernel_rfl) ?_ _
  have HQ : Hid (RowsAt lo B 27 (rowsF { f with rul := f.rul ++ [(ts, ns)] } (L ++ [((some ⟨tb, tq, none⟩, xc1), (X2, xc2), ts, ns)]) v0 v1 v2 (.slice (some ⟨g9, 0, none⟩) (n3 + 1) c9)) (L ++ [((some ⟨tb, tq, none⟩, xc1), (X2, xc2), ts, ns)]) (w9.setCell ⟨B, 3, none⟩ (.slice (some ⟨g9, 0, none⟩) (n3 + 1) c9))) := Lib.hid (by
   have hh := HR9.out
   rw [List.append_nil] at hh
   rw [← rowsF_rule (A := A3) (c := c3) HN3.out (u1 := .slice (some ⟨tb, tq, none⟩) tl xc1) (u2 := .slice X2 nl xc2) (by unfold rsT; rw [← HTL.out]) (by unfold rsN; rw [← HNL.out])]
   exact hh)
  have HWQ := Lib.hid (HBW2.out.trans HW9.out)
  have HRU : Hid (rulesOf (L ++ [((some ⟨tb, tq, none⟩, xc1), (X2, xc2), ts, ns)]) = f.rul ++ [(ts, ns)]) := Lib.hid (by rw [← HL.out]; unfold rulesOf; simp)
  have z3 : (w9.setCell ⟨B, 3, none⟩ (.slice (some ⟨g9, 0, none⟩) (n3 + 1) c9)).cell? ⟨B, 3, none⟩ = some (.slice (some ⟨g9, 0, none⟩) (n3 + 1) c9) := HQ.out.box.cell (j := 3) rfl
  clear t1 tf m3 y0 y1 HR9 HW9 HS9 HSA HSS HKS HRK
  generalize w9.setCell ⟨B, 3, none⟩ (.slice (some ⟨g9, 0, none⟩) (n3 + 1) c9) = w10 at *
  have HN4 : Hid (f.rul.length + 1 = n3 + 1) := Lib.hid (by rw [← HLE.out])
  by_cases h100 : 100 < n3 + 1
  ·have p1 : decide ((100 : Int) < (n3 : Int) + 1) = true := by simp; omega
   have p2 : (100 : Int) < (n3 : Int) + 1 := by omega
   have HE2 : Hid (addP f (ts, ns) = (2, { f with rul := f.rul ++ [(ts, ns)] })) := Lib.hid (by rw [HE.out, HN4.out, if_pos h100])
   clear h100
   go_wp2_with fail
   go_ret
   exact ⟨_, _, v0, v1, v2, _, by rw [HE2.out]; rfl, by rw [HE2.out], HRU.out, HQ.out, HWQ.out, fun y hy => (List.mem_append.1 hy).imp id (fun h => List.mem_singleton.1 h)⟩
  ·have p1 : decide ((100 : Int) < (n3 : Int) + 1) = false := by simp; omega
   have p2 : ¬ (100 : Int) < (n3 : Int) + 1 := by omega
   have HE2 : Hid (addP f (ts, ns) = (0, { f with rul := f.rul ++ [(ts, ns)] })) := Lib.hid (by rw [HE.out, HN4.out, if_neg h100])
   clear h100
   go_wp2_with fail
   go_ret
   exact ⟨_, _, v0, v1, v2, _, by rw [HE2.out]; rfl, by rw [HE2.out], HRU.out, HQ.out, HWQ.out, fun y hy => (List.mem_append.1 hy).imp id (fun h => List.mem_singleton.1 h)⟩
 ·go_upto_region 18 with fail
  refine wp_region_x (fun W => W.cell? ⟨B, 3, none⟩ = some (.slice A3 n3 c3) ∧ W.cell? ⟨k0, 0, none⟩ = some (.slice (some ⟨tb, tq, none⟩) tl xc1) ∧ W.cell? ⟨k0, 1, none⟩ = some (.slice X2 nl xc2)) 10 (by kernel_rfl) ?_
  refine wpAnyX_take (i := 0) (v := ?v0c) rfl (by kernel_rfl) (by kernel_rfl) (by kernel_rfl) (by kernel_rfl) (fun _ _ _ h => h) (Or.inl ⟨by rfl, ?hy0c⟩) HSS.out ?rest0c
  case hy0c => (intro W hSw; (try dsimp only at hSw); obtain ⟨hS1, hS2, hS3⟩ := hSw; go_simp; try with_reducible rfl)
  refine wpAnyX_take (i := 1) (v := ?v1c) rfl (by kernel_rfl) (by kernel_rfl) (by kernel_rfl) (by kernel_rfl) (fun _ _ _ h => h) (Or.inl ⟨by rfl, ?hy1c⟩) HSS.out ?rest1c
  case hy1c => (intro W hSw; (try dsimp only at hSw); obtain ⟨hS1, hS2, hS3⟩ := hSw; go_simp; try with_reducible rfl)
  refine wpAnyX_take (i := 2) (v := ?v2c) rfl (by kernel_rfl) (by kernel_rfl) (by kernel_rfl) (by kernel_rfl) (fun _ _ _ h => h) (Or.inl ⟨by rfl, ?hy2c⟩) HSS.out ?rest2c
  case hy2c => (intro W hSw; (try dsimp only at hSw); obtain ⟨hS1, hS2, hS3⟩ := hSw; go_simp; try with_reducible rfl)
  refine wpAnyX_take (i := 3) (v := ?v3c) rfl (by kernel_rfl) (by kernel_rfl) (by kernel_rfl) (by kernel_rfl) (fun _ _ _ h => h) (Or.inl ⟨by rfl, ?hy3c⟩) HSS.out ?rest3c
  case hy3c => (intro W hSw; (try dsimp only at hSw); obtain ⟨hS1, hS2, hS3⟩ := hSw; go_simp; try with_reducible rfl)
  refine wpAnyX_take (i := 4) (v := ?v4c) rfl (by kernel_rfl) (by kernel_rfl) (by kernel_rfl) (by kernel_rfl) (fun _ _ _ h => h) (Or.inl ⟨by rfl, ?hy4c⟩) HSS.out ?rest4c
  case hy4c => (intro W hSw; (try dsimp only at hSw); obtain ⟨hS1, hS2, hS3⟩ := hSw; go_simp; try with_reducible rfl)
  refine wpAnyX_take (i := 5) (v := ?v5c) rfl (by kernel_rfl) (by kernel_rfl) (by kernel_rfl) (by kernel_rfl) (fun _ _ _ h => h) (Or.inl ⟨by rfl, ?hy5c⟩) HSS.out ?rest5c
  case hy5c => (intro W hSw; (try dsimp only at hSw); obtain ⟨hS1, hS2, hS3⟩ := hSw; go_simp; try with_reducible rfl)
  refine wpAnyX_one (i := 6) (by kernel_rfl) rfl (fun K hK => ?_)
  rw [if_pos (by rfl)]
  go_simp
  refine hK _ _ (fun _ => HSA.out) ?_
  clear hK K
  refine wpAnyX_one (i := 7) (by kernel_rfl) rfl (fun K hK => ?_)
  refine step_pushF w2.drew (.tmp 89) (.tmp 91) HR2.out 3 elRulF A3 n3 c3 (rsV L) HRK.out #[.slice (some ⟨tb, tq, none⟩) tl xc1, .slice X2 nl xc2] rfl (by intro u hu; simp at hu; rcases hu with rfl | rfl <;> rfl) (by omega) (by omega) (N := []) (by simp) rfl rfl (by simp [Act.eval]) (by simp [Act.eval]) ?_
  intro g9 c9 w9 hb9 hg9 hr9 hw9
  have t1 : w9.cell? ⟨B, 3, none⟩ = some (.slice A3 n3 c3) := hb9.cell (j := 3) rfl
  have tf := hb9.free 3
  have HS9 := Lib.hid (show w9.cell? ⟨B, 3, none⟩ = some (.slice A3 n3 c3) ∧ w9.cell? ⟨k0, 0, none⟩ = some (.slice (some ⟨tb, tq, none⟩) tl xc1) ∧ w9.cell? ⟨k0, 1, none⟩ = some (.slice X2 nl xc2) from ⟨t1, HKS.out w9 hg9⟩)
  have HR9 := Lib.hid hr9
  have HW9 := Lib.hid hw9
  clear hb9 hg9 hr9 hw9
  refine hK _ _ (fun _ => HS9.out) ?_
  clear hK K
  refine wpAnyX_one (i := 8) (by kernel_rfl) rfl (fun K hK => ?_)
  rw [if_pos (by rfl)]
  go_simp
  refine hK _ _ (fun _ => HS9.out) ?_
  clear hK K
  refine wpAnyX_take (i := 9) (v := ?v9c) rfl (by kernel_rfl) (by kernel_rfl) (by kernel_rfl) (by kernel_rfl) (fun _ _ _ h => h) (Or.inl ⟨by rfl, ?hy9c⟩) HS9.out ?rest9c
  case hy9c => (intro W hSw; (try dsimp only at hSw); obtain ⟨hS1, hS2, hS3⟩ := hSw; go_simp; try with_reducible rfl)
  refine wpAnyX_one (i := 10) (by kernel_rfl) rfl (fun K hK => ?_)
  rw [if_pos (by rfl)]
  go_simp
  refine hK _ _ (fun h => absurd rfl h) ?_
  clear hK K
  refine wpAnyX_done (by kernel_rfl) ?_ _
  have HQ : Hid (RowsAt lo B 27 (rowsF { f with rul := f.rul ++ [(ts, ns)] } (L ++ [((some ⟨tb, tq, none⟩, xc1), (X2, xc2), ts, ns)]) v0 v1 v2 (.slice (some ⟨g9, 0, none⟩) (n3 + 1) c9)) (L ++ [((some ⟨tb, tq, none⟩, xc1), (X2, xc2), ts, ns)]) (w9.setCell ⟨B, 3, none⟩ (.slice (some ⟨g9, 0, none⟩) (n3 + 1) c9))) := Lib.hid (by
   have hh := HR9.out
   rw [List.append_nil] at hh
   rw [← rowsF_rule (A := A3) (c := c3) HN3.out (u1 := .slice (some ⟨tb, tq, none⟩) tl xc1) (u2 := .slice X2 nl xc2) (by unfold rsT; rw [← HTL.out]) (by unfold rsN; rw [← HNL.out])]
   exact hh)
  have HWQ := Lib.hid (HBW2.out.trans HW9.out)
  have HRU : Hid (rulesOf (L ++ [((some ⟨tb, tq, none⟩, xc1), (X2, xc2), ts, ns)]) = f.rul ++ [(ts, ns)]) := Lib.hid (by rw [← HL.out]; unfold rulesOf; simp)
  have z3 : (w9.setCell ⟨B, 3, none⟩ (.slice (some ⟨g9, 0, none⟩) (n3 + 1) c9)).cell? ⟨B, 3, none⟩ = some (.slice (some ⟨g9, 0, none⟩) (n3 + 1) c9) := HQ.out.box.cell (j := 3) rfl
  clear t1 tf m3 y0 y1 HR9 HW9 HS9 HSA HSS HKS HRK
  generalize w9.setCell ⟨B, 3, none⟩ (.slice (some ⟨g9, 0, none⟩) (n3 + 1) c9) = w10 at *
  have HN4 : Hid (f.rul.length + 1 = n3 + 1) := Lib.hid (by rw [← HLE.out])
  by_cases h100 : 100 < n3 + 1
  ·have p1 : decide ((100 : Int) < (n3 : Int) + 1) = true := by simp; omega
   have p2 : (100 : Int) < (n3 : Int) + 1 := by omega
   have HE2 : Hid (addP f (ts, ns) = (2, { f with rul := f.rul ++ [(ts, ns)] })) := Lib.hid (by rw [HE.out, HN4.out, if_pos h100])
   clear h100
   go_wp2_with fail
   go_ret
   exact ⟨_, _, v0, v1, v2, _, by rw [HE2.out]; rfl, by rw [HE2.out], HRU.out, HQ.out, HWQ.out, fun y hy => (List.mem_append.1 hy).imp id (fun h => List.mem_singleton.1 h)⟩
  ·have p1 : decide ((100 : Int) < (n3 : Int) + 1) = false := by simp; omega
   have p2 : ¬ (100 : Int) < (n3 : Int) + 1 := by omega
   have HE2 : Hid (addP f (ts, ns) = (0, { f with rul := f.rul ++ [(ts, ns)] })) := Lib.hid (by rw [HE.out, HN4.out, if_neg h100])
   clear h100
   go_wp2_with fail
   go_ret
   exact ⟨_, _, v0, v1, v2, _, by rw [HE2.out]; rfl, by rw [HE2.out], HRU.out, HQ.out, HWQ.out, fun y hy => (List.mem_append.1 hy).imp id (fun h => List.mem_singleton.1 h)⟩
end
end Go.Proofs.YtoandhhkmkgmaaaGreatDoor
namespace Go.Proofs.YtoandhhkmkgmaaaGreatDoor
open Go.RowKit

theorem rowsF_inf {f : FileT} {L : List RSlot} {v0 v1 v3 u1 u2 : Value} {A : Option Addr} {n c g c' : Nat} {p : InfT} (hn : f.inf.length = n) (h1 : sv p.1 = u1) (h2 : sv p.2 = u2) :
 (rowsF f L v0 v1 (.slice A n c) v3).set 2 ⟨85, 2, .slice (some ⟨g, 0, none⟩) (n + 1) c', n + 1, macV f.inf ++ [u1, u2]⟩ = rowsF { f with inf := f.inf ++ [p] } L v0 v1 (.slice (some ⟨g, 0, none⟩) (n + 1) c') v3 := by
 subst h1 h2
 unfold rowsF macV
 simp [hn]
theorem addP_inf {f : FileT} {r : RuleT} {p : InfT} (h : phonyW ∉ r.1) (h2 : pairP (r.1.headD []) = some p) (h3 : r.1.length = 1 ∧ r.2.length = 0) : addP f r = (0, if p ∈ f.inf then f else { f with inf := f.inf ++ [p] }) := by
 unfold addP
 rw [if_neg h, h2]
 dsimp only
 rw [if_pos h3]
section
variable {lo B : Nat} {f : FileT} {L : List RSlot} {v0 v1 v2 v3 : Value} {W : World} (h : RowsAt lo B 27 (rowsF f L v0 v1 v2 v3) L W) (hL : rulesOf L = f.rul)
 {x : RSlot} (hx : RsIn x W) (hf : ∀ r ∈ rowsF f L v0 v1 v2 v3, farS x r.v.ownBlock) (hfB : farS x (some B))
include h hL hx hf hfB
set_option maxRecDepth 100000 in
set_option maxHeartbeats 4000000 in
theorem fAdd_inf (hi200 : f.inf.length ≤ 1048576) (hph : phonyW ∉ x.2.2.1) {t0 : List UInt8} (ht0 : x.2.2.1[0]? = some t0) (ht0l : t0.length ≤ 1048576) {p : InfT} (hp : pairP t0 = some p) (hl1 : x.2.2.1.length = 1) (hl0 : x.2.2.2.length = 0)
 (mx : Int) (hmx : W.cell? ⟨1, 0, none⟩ = some (.int .i64 mx)) (h0 : 1 < W.heap.size) : Calls Tryz.prog 38 #[.pointer (some ⟨B, 0, none⟩), .agg #[rsT x, rsN x]] W (AddPost lo B f L x W) := by
 have HB0 := Lib.hid (below_new (Below.refl W.heap.size W) (.cells #[rsT x, rsN x] 78))
 have HR0 := Lib.hid ((h.with hx hf hfB).below HB0.out)
 have HK0 := Lib.hid (Blk.new W #[rsT x, rsN x] 78)
 have HBW0 := Lib.hid ((ButLo.refl lo B W).below HB0.out h.top)
 have HL := Lib.hid hL
 have HX0 := Lib.hid (HR0.out.each x (by simp))
 have HI200 := Lib.hid hi200
 have HV3 : Hid (∀ g, v2.ownBlock = some g → g < W.heap.size) := Lib.hid (fun g hg => ((h.own ⟨85, 2, v2, f.inf.length, macV f.inf⟩ (by unfold rowsF; simp)).lt g hg).2)
 have CT := Lib.hid (slContains_any (c := x.1.2) x.2.2.1 phonyW _ HX0.out.t rfl HX0.out.tb)
 have htr : inL x.2.2.1 phonyW = false := by unfold inL; exact decide_eq_false hph
 rw [htr, show (⟨phonyW.toArray⟩ : ByteArray) = ⟨#[46, 80, 72, 79, 78, 89]⟩ from rfl] at CT
 have HC0 := Lib.hid (Rd.scell HX0.out.t ht0)
 have HCP := Lib.hid (fun W' (hb : Below W.heap.size W W') => (show Calls Tryz.prog 85 #[.string ⟨t0.toArray⟩] W' (PairPost t0 W') from fPair_any t0 ht0l mx W' (cell_belowF hmx h0 hb) (Nat.lt_of_lt_of_le h0 hb.size)))
 have HE : Hid (addP f x.2.2 = (0, if p ∈ f.inf then f else { f with inf := f.inf ++ [p] })) := Lib.hid (addP_inf hph (by
  have e : x.2.2.1.headD [] = t0 := by
   cases hh : x.2.2.1 with
   | nil => rw [hh] at ht0; cases ht0
   | cons a l => rw [hh] at ht0; injection ht0
  rw [e]; exact hp) ⟨hl1, hl0⟩)
 have HLT := Lib.hid (List.getElem?_eq_some_iff.1 ht0).1
 clear h hL hx hf hfB hi200 hph htr hmx h0 ht0 ht0l
 obtain ⟨⟨X1, xc1⟩, ⟨X2, xc2⟩, ts, ns⟩ := x
 simp only [rsT, rsN] at *
 obtain ⟨tl, htl⟩ : ∃ tl, ts.length = tl := ⟨_, rfl⟩
 obtain ⟨nl, hnl⟩ : ∃ nl, ns.length = nl := ⟨_, rfl⟩
 have HTL := Lib.hid htl
 have HNL := Lib.hid hnl
 have htl1 : 0 < tl := by rw [← htl]; exact HLT.out
 simp only [htl, hnl] at HK0 CT HR0 HBW0 HX0 HB0 HC0 hl1 hl0 ⊢
 have HL1 := Lib.hid hl1
 have HL0 := Lib.hid hl0
 clear hl1 hl0
 obtain ⟨tb, tq, rfl, hc0⟩ := HC0.out
 clear HC0
 simp only [Nat.add_zero] at hc0
 generalize hW0 : W.alloc (.cells #[.slice (some ⟨tb, tq, none⟩) tl xc1, .slice X2 nl xc2] 78) = W0 at *
 have HW0 := Lib.hid hW0
 have y0 : W0.cell? ⟨W.heap.size, 0, none⟩ = some (.slice (some ⟨tb, tq, none⟩) tl xc1) := HK0.out.cell (j := 0) rfl
 have y1 : W0.cell? ⟨W.heap.size, 1, none⟩ = some (.slice X2 nl xc2) := HK0.out.cell (j := 1) rfl
 clear hW0 htl hnl
 go_enter Tryz.func38, Tryz.ntmps38
 go_upto_region 1 with fail
 rw [HW0.out]
 generalize hk0 : W.heap.size = k0 at *
 have HK00 := Lib.hid hk0
 clear hk0
 go_wp2_with fail
 refine CT.out.mono ?_
 rintro e w1 ⟨rfl, rfl⟩
 go_wp2_with fail
 refine (HCP.out _ HB0.out).mono ?_
 rintro e w1 ⟨hb1, pa, pb, hab, rfl⟩
 have HB1 := Lib.hid (HB0.out.trans (hb1.mono (Nat.le_of_lt HK0.out.lt)))
 have HR1 := Lib.hid (HR0.out.below hb1)
 have HBW1 := Lib.hid (HBW0.out.below hb1 HR0.out.top)
 have HK1 := Lib.hid (HK0.out.below hb1 HK0.out.lt)
 obtain ⟨ba, hba⟩ : ∃ ba, sv pa = .string ba := ⟨_, rfl⟩
 obtain ⟨bb, hbb⟩ : ∃ bb, sv pb = .string bb := ⟨_, rfl⟩
 rw [hba, hbb]
 rw [hp] at hab ⊢
 have hpp : (pa, pb) = p := hab
 have HPP := Lib.hid hpp
 have hk7 : k0 < w1.heap.size := Nat.lt_of_lt_of_le HK0.out.lt hb1.size
 have HBA := Lib.hid hba
 have HBB := Lib.hid hbb
 clear hb1 hab hba hbb hp hpp
 simp only [Option.isSome_some]
 go_upto_region 14 with fail
 have hb2 : Below w1.heap.size w1 (w1.alloc (.cells #[.string ba, .string bb] 85)) := below_new (Below.refl w1.heap.size w1) _
 have HR2 := Lib.hid (HR1.out.below hb2)
 have HBW2 := Lib.hid (HBW1.out.below hb2 HR1.out.top)
 have HK2 := Lib.hid (HK1.out.below hb2 HK1.out.lt)
 have HK7 := Lib.hid (Blk.new w1 #[.string ba, .string bb] 85)
 clear hb2 HR1 HBW1 HK1 HB1 CT HCP HR0 HBW0 HX0 HK0 HB0 y0 y1 hc0
 generalize w1.alloc (.cells #[.string ba, .string bb] 85) = w2 at *
 generalize w1.heap.size = k7 at *
 obtain ⟨A2, c2, hv2⟩ := slice_ofF (HR2.out.own ⟨85, 2, v2, f.inf.length, macV f.inf⟩ (by unfold rowsF; simp))
 dsimp only at hv2
 subst hv2
 have y0 : w2.cell? ⟨k0, 0, none⟩ = some (.slice (some ⟨tb, tq, none⟩) tl xc1) := HK2.out.cell (j := 0) rfl
 have y1 : w2.cell? ⟨k0, 1, none⟩ = some (.slice X2 nl xc2) := HK2.out.cell (j := 1) rfl
 have m3 : w2.cell? ⟨B, 2, none⟩ = some (.slice A2 f.inf.length c2) := HR2.out.box.cell (j := 2) rfl
 have d0 : w2.cell? ⟨k7, 0, none⟩ = some (.string ba) := HK7.out.cell (j := 0) rfl
 have d1 : w2.cell? ⟨k7, 1, none⟩ = some (.string bb) := HK7.out.cell (j := 1) rfl
 have HRD := Lib.hid (Rd.own2 (HR2.out.own ⟨85, 2, .slice A2 f.inf.length c2, f.inf.length, macV f.inf⟩ (by unfold rowsF; simp)))
 have CC := Lib.hid (fun W' (hW : Below w2.heap.size w2 W') => slContainsI_any (c := c2) f.inf p W' (HRD.out.below hW) rfl (by have := HI200.out; omega))
 rw [← HPP.out] at CC
 dsimp only at CC
 rw [HBA.out, HBB.out] at CC
 obtain ⟨n2, hn2⟩ : ∃ n2, f.inf.length = n2 := ⟨_, rfl⟩
 have HN2 := Lib.hid hn2
 rw [hn2] at m3 HR2 HV3 CC
 have hn100 : n2 ≤ 1048576 := by rw [← hn2]; exact HI200.out
 have HRK : Hid ((rowsF f L v0 v1 (.slice A2 n2 c2) v3)[2]? = some ⟨85, 2, .slice A2 n2 c2, n2, macV f.inf⟩) := Lib.hid (by unfold rowsF; simp [HN2.out])
 have HVB : Hid (some k7 ≠ (Value.slice A2 n2 c2).ownBlock) := Lib.hid (fun e => by have := HV3.out k7 (e ▸ rfl); omega)
 have HSL : Hid (∀ W', Below w2.heap.size w2 W' → W'.cell? ⟨B, 2, none⟩ = some (.slice A2 n2 c2) ∧ W'.cell? ⟨k7, 0, none⟩ = some (.string ba) ∧ W'.cell? ⟨k7, 1, none⟩ = some (.string bb) ∧ Below w2.heap.size w2 W') := Lib.hid (fun W' hW => ⟨cell_kept m3 hW, cell_kept d0 hW, cell_kept d1 hW, hW⟩)
 clear hn2
 have hl1 := HL1.out
 have hl0 := HL0.out
 clear HL1 HL0
 have q1 : ((tl : Int) == 1) = true := by simp [hl1]
 have q2 : ((nl : Int) == 0) = true := by simp [hl0]
 clear hl1 hl0
 have b0 := Below.refl w2.heap.size w2
 have bd : Below w2.heap.size w2 w2.drew := Below.drew b0
 go_upto_region 15 with fail
 go_region_held3 (fun W' => W'.cell? ⟨B, 2, none⟩ = some (.slice A2 n2 c2) ∧ W'.cell? ⟨k7, 0, none⟩ = some (.string ba) ∧ W'.cell? ⟨k7, 1, none⟩ = some (.string bb) ∧ Below w2.heap.size w2 W')
  ((refine HSL.out _ ?_; first | assumption | exact Below.drew (by assumption)))
  ((first
    | (go_at_call 86; (with_reducible refine (CC.out _ (by assumption)).mono ?_); rintro e u1 ⟨rfl, h1⟩; have bu1 := below_then (by assumption) h1)))
 have HR3 := Lib.hid (HR2.out.below bu1)
 have HBW3 := Lib.hid (HBW2.out.below bu1 HR2.out.top)
 have m4 := cell_kept m3 bu1
 have d4 := cell_kept d0 bu1
 have d5 := cell_kept d1 bu1
 have y4 := cell_kept y0 bu1
 have y5 := cell_kept y1 bu1
 clear m3 d0 d1 y0 y1 HSL CC b0 bd HRD HR2 HBW2 HK2 HK7
 have HU1 := Lib.hid bu1
 clear h1 bu1
 by_cases hin : p ∈ f.inf
 ·have hi : inI f.inf (pa, pb) = true := by rw [HPP.out]; exact decide_eq_true hin
  have HE2 : Hid (addP f (ts, ns) = (0, f)) := Lib.hid (by rw [HE.out, if_pos hin])
  rw [hi]
  clear hi hin
  go_wp2_with fail
  go_ret
  exact ⟨f, L, v0, v1, _, v3, by rw [HE2.out]; rfl, by rw [HE2.out], HL.out, HR3.out.sub (fun y hy => List.mem_append_left _ hy), HBW3.out, fun y hy => .inl hy⟩
 ·have hi : inI f.inf (pa, pb) = false := by rw [HPP.out]; exact decide_eq_false hin
  have HE2 : Hid (addP f (ts, ns) = (0, { f with inf := f.inf ++ [p] })) := Lib.hid (by rw [HE.out, if_neg hin])
  rw [hi]
  clear hi hin
  have HSS : Hid (u1.drew.cell? ⟨B, 2, none⟩ = some (.slice A2 n2 c2) ∧ u1.drew.cell? ⟨k7, 0, none⟩ = some (.string ba) ∧ u1.drew.cell? ⟨k7, 1, none⟩ = some (.string bb)) := Lib.hid ⟨m4, d4, d5⟩
  have HSA : Hid ((u1.drew.alloc (.cells #[.string ba, .string bb] 85)).cell? ⟨B, 2, none⟩ = some (.slice A2 n2 c2) ∧ (u1.drew.alloc (.cells #[.string ba, .string bb] 85)).cell? ⟨k7, 0, none⟩ = some (.string ba) ∧ (u1.drew.alloc (.cells #[.string ba, .string bb] 85)).cell? ⟨k7, 1, none⟩ = some (.string bb)) := Lib.hid ⟨cell_allocF (w := u1.drew) m4 _, cell_allocF (w := u1.drew) d4 _, cell_allocF (w := u1.drew) d5 _⟩
  have HKS : Hid (∀ w9, (u1.drew.alloc (.cells #[.string ba, .string bb] 85)).grownBy w9 (Value.slice A2 n2 c2).ownBlock → w9.cell? ⟨k7, 0, none⟩ = some (.string ba) ∧ w9.cell? ⟨k7, 1, none⟩ = some (.string bb)) := Lib.hid (fun w9 hg => by
   have hb : w9.heap[k7]? = (u1.drew.alloc (.cells #[.string ba, .string bb] 85)).heap[k7]? := hg.block k7 (lt_of_cell' HSA.out.2.1) HVB.out
   exact ⟨(World.cell?_of_block hb).trans HSA.out.2.1, (World.cell?_of_block hb).trans HSA.out.2.2⟩)
  go_upto_region 16 with fail
  refine wp_region_x (fun W => W.cell? ⟨B, 2, none⟩ = some (.slice A2 n2 c2) ∧ W.cell? ⟨k7, 0, none⟩ = some (.string ba) ∧ W.cell? ⟨k7, 1, none⟩ = some (.string bb)) 10 (by kernel_rfl) ?_
  refine wpAnyX_take (i := 0) (v := ?v0) rfl (by kernel_rfl) (by kernel_rfl) (by kernel_rfl) (by kernel_rfl) (fun _ _ _ h => h) (Or.inl ⟨by rfl, ?hy0⟩) HSS.out ?rest0
  case hy0 => (intro W hSw; (try dsimp only at hSw); obtain ⟨hS1, hS2, hS3⟩ := hSw; go_simp; try with_reducible rfl)
  refine wpAnyX_take (i := 1) (v := ?v1) rfl (by kernel_rfl) (by kernel_rfl) (by kernel_rfl) (by kernel_rfl) (fun _ _ _ h => h) (Or.inl ⟨by rfl, ?hy1⟩) HSS.out ?rest1
  case hy1 => (intro W hSw; (try dsimp only at hSw); obtain ⟨hS1, hS2, hS3⟩ := hSw; go_simp; try with_reducible rfl)
  refine wpAnyX_take (i := 2) (v := ?v2) rfl (by kernel_rfl) (by kernel_rfl) (by kernel_rfl) (by kernel_rfl) (fun _ _ _ h => h) (Or.inl ⟨by rfl, ?hy2⟩) HSS.out ?rest2
  case hy2 => (intro W hSw; (try dsimp only at hSw); obtain ⟨hS1, hS2, hS3⟩ := hSw; go_simp; try with_reducible rfl)
  refine wpAnyX_take (i := 3) (v := ?v3) rfl (by kernel_rfl) (by kernel_rfl) (by kernel_rfl) (by kernel_rfl) (fun _ _ _ h => h) (Or.inl ⟨by rfl, ?hy3⟩) HSS.out ?rest3
  case hy3 => (intro W hSw; (try dsimp only at hSw); obtain ⟨hS1, hS2, hS3⟩ := hSw; go_simp; try with_reducible rfl)
  refine wpAnyX_take (i := 4) (v := ?v4) rfl (by kernel_rfl) (by kernel_rfl) (by kernel_rfl) (by kernel_rfl) (fun _ _ _ h => h) (Or.inl ⟨by rfl, ?hy4⟩) HSS.out ?rest4
  case hy4 => (intro W hSw; (try dsimp only at hSw); obtain ⟨hS1, hS2, hS3⟩ := hSw; go_simp; try with_reducible rfl)
  refine wpAnyX_take (i := 5) (v := ?v5) rfl (by kernel_rfl) (by kernel_rfl) (by kernel_rfl) (by kernel_rfl) (fun _ _ _ h => h) (Or.inl ⟨by rfl, ?hy5⟩) HSS.out ?rest5
  case hy5 => (intro W hSw; (try dsimp only at hSw); obtain ⟨hS1, hS2, hS3⟩ := hSw; go_simp; try with_reducible rfl)
  refine wpAnyX_one (i := 6) (by kernel_rfl) rfl (fun K hK => ?_)
  rw [if_pos (by rfl)]
  go_simp
  refine hK _ _ (fun _ => HSA.out) ?_
  clear hK K
  refine wpAnyX_one (i := 7) (by kernel_rfl) rfl (fun K hK => ?_)
  refine step_pushF u1.drew (.tmp 79) (.tmp 81) HR3.out.drew 2 elInfF A2 n2 c2 (macV f.inf) HRK.out #[.string ba, .string bb] rfl (by intro u hu; simp at hu; rcases hu with rfl | rfl <;> rfl) (by omega) (by omega) (N := []) (by simp) rfl rfl (by simp [Act.eval]) (by simp [Act.eval]) ?_
  intro g9 c9 w9 hb9 hg9 hr9 hw9
  have t1 : w9.cell? ⟨B, 2, none⟩ = some (.slice A2 n2 c2) := hb9.cell (j := 2) rfl
  have tf := hb9.free 2
  have HS9 := Lib.hid (show w9.cell? ⟨B, 2, none⟩ = some (.slice A2 n2 c2) ∧ w9.cell? ⟨k7, 0, none⟩ = some (.string ba) ∧ w9.cell? ⟨k7, 1, none⟩ = some (.string bb) from ⟨t1, HKS.out w9 hg9⟩)
  have HR9 := Lib.hid hr9
  have HW9 := Lib.hid hw9
  clear hb9 hg9 hr9 hw9
  refine hK _ _ (fun _ => HS9.out) ?_
  clear hK K
  refine wpAnyX_one (i := 8) (by kernel_rfl) rfl (fun K hK => ?_)
  rw [if_pos (by rfl)]
  go_simp
  refine hK _ _ (fun _ => HS9.out) ?_
  clear hK K
  refine wpAnyX_take (i := 9) (v := ?v9) rfl (by kernel_rfl) (by kernel_rfl) (by kernel_rfl) (by kernel_rfl) (fun _ _ _ h => h) (Or.inl ⟨by rfl, ?hy9⟩) HS9.out ?rest9
  case hy9 => (intro W hSw; (try dsimp only at hSw); obtain ⟨hS1, hS2, hS3⟩ := hSw; go_simp; try with_reducible rfl)
  refine wpAnyX_one (i := 10) (by kernel_rfl) rfl (fun K hK => ?_)
  rw [if_pos (by rfl)]
  go_simp
  refine hK _ _ (fun h => absurd rfl h) ?_
  clear hK K
  refine wpAnyX_done (by kernel_rfl) ?_ _
  have HQ : Hid (RowsAt lo B 27 (rowsF { f with inf := f.inf ++ [p] } L v0 v1 (.slice (some ⟨g9, 0, none⟩) (n2 + 1) c9) v3) L (w9.setCell ⟨B, 2, none⟩ (.slice (some ⟨g9, 0, none⟩) (n2 + 1) c9))) := Lib.hid (by
   have hh := HR9.out
   rw [List.append_nil] at hh
   rw [← rowsF_inf (A := A2) (c := c2) HN2.out (u1 := .string ba) (u2 := .string bb) (by rw [← HPP.out]; exact HBA.out) (by rw [← HPP.out]; exact HBB.out)]
   exact hh.sub (fun y hy => List.mem_append_left _ hy))
  have HWQ := Lib.hid (HBW3.out.drew.trans HW9.out)
  clear t1 tf m4 d4 d5 y4 y5 HR9 HW9 HS9 HSA HSS HKS HRK
  generalize w9.setCell ⟨B, 2, none⟩ (.slice (some ⟨g9, 0, none⟩) (n2 + 1) c9) = w10 at *
  go_wp2_with fail
  go_ret
  exact ⟨{ f with inf := f.inf ++ [p] }, L, v0, v1, _, v3, by rw [HE2.out]; rfl, by rw [HE2.out], HL.out, HQ.out, HWQ.out, fun y hy => .inl hy⟩
end
theorem fAdd_any {lo B : Nat} {f : FileT} {L : List RSlot} {v0 v1 v2 v3 : Value} {W : World} (h : RowsAt lo B 27 (rowsF f L v0 v1 v2 v3) L W) (hL : rulesOf L = f.rul)
 {x : RSlot} (hx : RsIn x W) (hf : ∀ r ∈ rowsF f L v0 v1 v2 v3, farS x r.v.ownBlock) (hfB : farS x (some B)) (hp20 : f.pho.length ≤ 20) (hr100 : f.rul.length ≤ 100) (hi200 : f.inf.length ≤ 1048576) (hns : x.2.2.2.length ≤ 1048576)
 {t0 : List UInt8} (ht0 : x.2.2.1[0]? = some t0) (ht0l : t0.length ≤ 1048576) (mx : Int) (hmx : W.cell? ⟨1, 0, none⟩ = some (.int .i64 mx)) (h0 : 1 < W.heap.size) :
 Calls Tryz.prog 38 #[.pointer (some ⟨B, 0, none⟩), .agg #[rsT x, rsN x]] W (AddPost lo B f L x W) := by
 by_cases hph : phonyW ∈ x.2.2.1
 ·exact fAdd_ph h hL hx hf hfB hp20 hns hph
 ·by_cases h2 : pairP t0 = none ∨ ¬ (x.2.2.1.length = 1 ∧ x.2.2.2.length = 0)
  ·exact fAdd_rule h hL hx hf hfB hr100 hph ht0 ht0l h2 mx hmx h0
  ·rw [not_or, Classical.not_not] at h2
   cases hp : pairP t0 with
   | none => exact absurd hp h2.1
   | some p => exact fAdd_inf h hL hx hf hfB hi200 hph ht0 ht0l hp h2.2.1 h2.2.2 mx hmx h0
end Go.Proofs.YtoandhhkmkgmaaaGreatDoor

/- Contract: one way more (package cut). Rows are good; the table of math/bits lies. -/
import Derived.Test.YtonmkmghpiagjaaDoorCut3H
import Derived.Deep.AppendLies
namespace Go.Proofs.YtonmkmghpiagjaaDoor
open Go.RowKit Go.ChangeMaps

def MoreEnd (l : List Nat) (Wb : World) (BF bN bA : Nat) (A : Option Addr) (n c a b : Nat) (st : Fl) (F : Option Addr) (cF : Nat) (e : Ending) (w' : World) : Prop :=
  Below Wb.heap.size Wb w' ∧ ((e = .returned (.bool false) ∧ (∃ R, Shut l a b st R) ∧ FlR w' BF bN bA A n c a b st F cF Wb.heap.size) ∨
    (e = .returned (.bool true) ∧ ∃ st' F' cF', FInv l a b st' ∧ st'.fs.length = st.fs.length + 1 ∧ FlR w' BF bN bA A n c a b st' F' cF' Wb.heap.size))
set_option maxHeartbeats 1000000 in
set_option maxRecDepth 4000 in
theorem more_any {BF bN bA : Nat} {A : Option Addr} {n c a b : Nat} {st : Fl} {F : Option Addr} {cF : Nat} (l : List Nat) (Wb w : World) (hbw : Below Wb.heap.size Wb w) (hR : Rd Wb A (l.map uv)) (hl : l.length = n) (hg : Good l) (hT : Tab Wb)
    (hF : FlR w BF bN bA A n c a b st F cF Wb.heap.size) (hf : FInv l a b st) (ha : a < n) (hb : b < n) :
    Calls Tryd.prog 103 #[.pointer (some ⟨BF, 0, none⟩)] w (MoreEnd l Wb BF bN bA A n c a b st F cF) := by
  have hn : n ≤ 64 := by have := hg.1; omega
  have HBW := Lib.hid hbw
  have HL := Lib.hid hl
  have HG := Lib.hid hg
  have HF := Lib.hid hF
  have HI := Lib.hid hf
  have HSE := Lib.hid (search_any l w (hR.below hbw) hl hg (hT.below hbw) hF hf ha)
  clear hbw hR hl hg hT hF hf
  go_enter Tryd.func103, Tryd.ntmps103
  go_wp2_with fail
  refine HSE.out.mono ?_
  rintro e w1 ⟨bm, M, rfl, hsp, hmb, hbm, hb1⟩
  have HSP := Lib.hid hsp
  have HB1 := Lib.hid hb1
  have HMB := Lib.hid hmb
  have HF1 := Lib.hid (HF.out.below hb1)
  have hbm1 : bm < w1.heap.size := (Array.getElem?_eq_some_iff.1 hmb).1
  obtain ⟨q, hsi⟩ := hsp.inv
  have HSI := Lib.hid hsi
  have hlen : M.length ≤ 128 := by have := hsi.len; have := HL.out; omega
  have HK : Hid (∀ s ∈ keysM M, s.1 < 64) := Lib.hid (fun s hs => by have := HSI.out.lt s hs; have := HL.out; omega)
  have HMB2 : Hid (MapB (w1.alloc (.cells #[.int .i64 (b : Int), .bool false] 104)) bm M) := Lib.hid (hmb.same (Below.heap_alloc _ _ _ hbm1))
  have x2 := HF1.out.box.cell (j := 2) rfl
  have HB2 : Hid (Below w1.heap.size w1 ((w1.alloc (.cells #[.int .i64 (b : Int), .bool false] 104)).alloc (.cells #[.int .i64 0, .bool false] 104))) := Lib.hid (below_new (below_new (Below.refl _ _) _) _)
  clear hsp hmb hb1 hsi HSE
  rcases run_look HMB2.out HK.out (b, false) (show b < 64 by omega) true with ⟨hnf, hlk⟩ | ⟨j0, by0, hj0, hlk⟩
  · simp only [sv, if_true] at hlk
    have HSH : Hid (∃ R, Shut l a b st R) := Lib.hid (HSP.out.res.elim (fun h => absurd h hnf) (fun h => ⟨_, h⟩))
    clear hnf
    go_wp2_with fail
    go_ret
    exact ⟨HBW.out.trans (HB1.out.trans (HB2.out.mono HB1.out.size) |>.mono HBW.out.size), .inl ⟨rfl, HSH.out, HF1.out.below HB2.out⟩⟩
  · have HJ0 := Lib.hid hj0
    obtain ⟨by1, by2⟩ := by0
    simp only [sv, if_true] at hlk
    clear hj0
    have HB3 : Hid (Below w1.heap.size w1 (((w1.alloc (.cells #[.int .i64 (b : Int), .bool false] 104)).alloc (.cells #[.int .i64 (by1 : Int), .bool by2] 104)).alloc (.cells #[.int .i64 (b : Int), .bool false] 104))) := Lib.hid (below_new (below_new (below_new (Below.refl _ _) _) _) _)
    have HTB : Hid (Blk (((w1.alloc (.cells #[.int .i64 (b : Int), .bool false] 104)).alloc (.cells #[.int .i64 (by1 : Int), .bool by2] 104)).alloc (.cells #[.int .i64 (b : Int), .bool false] 104)) (w1.heap.size + 1 + 1) 104 [.int .i64 (b : Int), .bool false]) := Lib.hid (by
      have h := Blk.new ((w1.alloc (.cells #[.int .i64 (b : Int), .bool false] 104)).alloc (.cells #[.int .i64 (by1 : Int), .bool by2] 104)) #[.int .i64 (b : Int), .bool false] 104
      simp only [World.size_alloc] at h
      exact h)
    go_wp2_with fail
    clear hlk x2 HB2 HMB2
    generalize (((w1.alloc (.cells #[.int .i64 (b : Int), .bool false] 104)).alloc (.cells #[.int .i64 (by1 : Int), .bool by2] 104)).alloc (.cells #[.int .i64 (b : Int), .bool false] 104)) = w3 at HB3 HTB ⊢
    go_loopw [7, 8] (fun x y wr => ∃ (R : List Spt) (s : Spt) (i : Nat) (A' : Option Addr) (c' p : Nat), x = .slice A' R.length c' ∧ y = .pointer (some ⟨p, 0, none⟩) ∧ w1.heap.size ≤ p ∧ Hid (∀ x, ob A' = some x → x ≠ p) ∧ Hid (TInv l a b st M R s i) ∧ Hid (wr.ownsRow w1.heap.size 104 2 (.slice A' R.length c') R.length (spv R)) ∧ Hid (Blk wr p 104 [.int .i64 (s.1 : Int), .bool s.2]) ∧ Hid (Below w1.heap.size w1 wr)) (fun x _ _ => 129 - sliceLen x)
    case atStart => exact ⟨[], (b, false), j0, none, 0, _, rfl, rfl, by omega, Lib.hid (fun x hx => (by cases hx)), Lib.hid (tInv_start HJ0.out), Lib.hid (World.ownsRow_nil _ _ _ _), HTB, HB3⟩
    case round =>
      clear HB3 HTB
      obtain ⟨R, ⟨s1, s2⟩, i, A', c', p, rfl, rfl, hp, HNP, HTI, HOW, HBP, HBR⟩ := hrel
      obtain ⟨⟨t1', t2'⟩, hat⟩ := HTI.out.at_
      have HAT := Lib.hid hat
      have hs1 : s1 < n := by rw [← HL.out]; exact HSI.out.lt _ (keysM_at hat)
      have hRl : R.length ≤ 128 := by
        have h := spt_len HTI.out.nd (n := l.length) (fun s hs => by
          obtain ⟨pp, b', h1, _⟩ := HTI.out.pos s hs
          exact HSI.out.lt _ (keysM_at h1))
        have := HL.out
        omega
      have t1 := HBP.out.cell (j := 0) rfl
      have t2 := HBP.out.cell (j := 1) rfl
      have HFW := Lib.hid (HF1.out.below HBR.out)
      have x1 := HFW.out.box.cell (j := 1) rfl
      clear hat
      by_cases hsa : s1 = a
      · obtain ⟨hse, hsw⟩ := HTI.out.last HSI.out hsa
        have hs2 : s2 = true := by injection hse
        subst hs2
        have hsa' := hsa.symm
        clear hsa hse
        subst hsa'
        have HSW := Lib.hid hsw
        have HPN : Hid (∀ s ∈ (R ++ [(a, true)]).reverse, s.1 < n) := Lib.hid (fun s hs => by
          rw [List.mem_reverse, List.mem_append, List.mem_singleton] at hs
          rcases hs with hs | rfl
          · obtain ⟨_, _, h1, _⟩ := HTI.out.pos s hs
            rw [← HL.out]
            exact HSI.out.lt _ (keysM_at h1)
          · exact ha)
        clear hsw
        go_wp2_with fail
        go_quiet (fail)
        have HBR1 := Lib.hid (below_drewN HBR.out nq)
        have HOW1 := Lib.hid (HOW.out.kept (w' := wr.drewN nq) (row := none) ⟨rfl, rfl, rfl, Nat.le_refl _, fun _ _ _ => rfl⟩ (by cases A' <;> simp [Value.ownBlock]))
        clear t1 t2 x1 HFW HBR HBP HOW
        generalize wr.drewN nq = w4 at HBR1 HOW1 ⊢
        have HFW := Lib.hid (HF1.out.below HBR1.out)
        have x1 := HFW.out.box.cell (j := 1) rfl
        have hsz := HBR1.out.size
        go_wp2_with (at_builtin; refine wpList_pushS w4 _ _ w1.heap.size A' R.length c' R (a, true) HOW1.out hsz (by omega) rfl rfl rfl rfl ?_; intro g5 c5 w5 hown5 hb5 _; have HO5 := Lib.hid hown5; have HB5 := Lib.hid (HBR1.out.trans hb5); clear hown5 hb5)
        refine (reverse_any (R ++ [(a, true)]) w5 HO5.out (by rw [List.length_append]; rfl) (by omega)).mono ?_
        rintro e w6 ⟨rfl, hown6, hgr6⟩
        have HO6 := Lib.hid hown6
        have hg5 : w1.heap.size ≤ g5 ∧ g5 < w6.heap.size := HO6.out.lt g5 rfl
        have HB6 := Lib.hid (HB5.out.grown hgr6 HB5.out.size (fun k hk => by injection hk with hk; rw [← hk]; exact hg5.1))
        have hpl : (R ++ [(a, true)]).reverse.length = R.length + 1 := by rw [List.length_reverse, List.length_append]; rfl
        clear hown6 hgr6 HO5 HB5 HBR1 HOW1 HFW x1 HTI HAT HNP
        generalize (R ++ [(a, true)]).reverse = pp at HSW HPN HO6 hpl ⊢
        generalize R.length = rl at hpl HO6 hRl ⊢
        go_wp2_with fail
        go_loopw [9, 10, 11] (fun x9 x10 x11 wr => ∃ (k : Nat) (AA : Option Addr) (cA : Nat) (AD : Option Addr) (cD : Nat), x9 = .slice AA (pairsL addO pp k).length cA ∧ x10 = .slice AD (pairsL dropO pp k).length cD ∧ x11 = .int .i64 ((k : Int) + 1) ∧ k < rl + 1 ∧ Hid (wr.ownsRow w6.heap.size 172 2 (.slice AA (pairsL addO pp k).length cA) (pairsL addO pp k).length (dV (pairsL addO pp k))) ∧ Hid (wr.ownsRow w6.heap.size 172 2 (.slice AD (pairsL dropO pp k).length cD) (pairsL dropO pp k).length (dV (pairsL dropO pp k))) ∧ Hid (∀ x, ob AA = some x → ob AD ≠ some x) ∧ Hid (Below w6.heap.size w6 wr)) (fun _ _ x _ => rl + 1 - (intOf x).toNat)
        case atStart => exact ⟨0, none, 0, none, 0, rfl, rfl, rfl, by omega, Lib.hid (World.ownsRow_nil _ _ _ _), Lib.hid (World.ownsRow_nil _ _ _ _), Lib.hid (fun x hx => (by cases hx)), Lib.hid (Below.refl _ _)⟩
        case round =>
          obtain ⟨k, AA, cA, AD, cD, rfl, rfl, rfl, hk, hoa, hod, HDJ, HBR2⟩ := hrel
          have hla := pairsL_len addO_len pp k
          have hld := pairsL_len dropO_len pp k
          by_cases hlt : k + 1 < rl + 1
          · obtain ⟨⟨s1, s2⟩, hs⟩ : ∃ s : Spt, pp[k]? = some s := ⟨pp[k]'(by omega), List.getElem?_eq_getElem _⟩
            obtain ⟨⟨t1, t2⟩, ht⟩ : ∃ s : Spt, pp[k + 1]? = some s := ⟨pp[k + 1]'(by omega), List.getElem?_eq_getElem _⟩
            have HPA : Hid (pairsL addO pp (k + 1) = pairsL addO pp k ++ addO (s1, s2) (t1, t2)) := Lib.hid (by show pairsL addO pp k ++ pairO addO pp k = _; rw [pairO_at hs ht])
            have HPD : Hid (pairsL dropO pp (k + 1) = pairsL dropO pp k ++ dropO (s1, s2) (t1, t2)) := Lib.hid (by show pairsL dropO pp k ++ pairO dropO pp k = _; rw [pairO_at hs ht])
            have hog := own_belowN HO6.out HBR2.out
            obtain ⟨c1, c2⟩ := own_spot hog hpl hs
            obtain ⟨c3, c4⟩ := own_spot hog hpl ht
            have hgl : g5 < wr.heap.size := (hog.lt g5 rfl).2
            obtain ⟨a1, b1⟩ := cell_two c1 hgl
            obtain ⟨a2, b2⟩ := cell_two c2 hgl
            obtain ⟨a3, b3⟩ := cell_two c3 hgl
            obtain ⟨a4, b4⟩ := cell_two c4 hgl
            clear hs ht hog
            go_wp2_with fail
            go_region
            · obtain ⟨hbP, hbQ, hbW⟩ := two_new wr #[.int .i64 (s1 : Int), .bool s2] #[.int .i64 (t1 : Int), .bool t2] 104
              have HBQ := Lib.hid (HBR2.out.trans (hbW.mono HBR2.out.size))
              have HAA := Lib.hid (own_belowN hoa.out hbW)
              have HAD := Lib.hid (own_belowN hod.out hbW)
              have HBQ1 := Lib.hid hbP
              have HBQ2 := Lib.hid hbQ
              clear hbP hbQ hbW c1 c2 c3 c4 a1 a2 a3 a4 b1 b2 b3 b4 hoa hod HBR2
              generalize ((wr.alloc (.cells #[.int .i64 (s1 : Int), .bool s2] 104)).alloc (.cells #[.int .i64 (t1 : Int), .bool t2] 104)).drew = w7 at HBQ HAA HAD HBQ1 HBQ2 ⊢
              have q1 := HBQ1.out.cell (j := 0) rfl
              have q2 := HBQ1.out.cell (j := 1) rfl
              have q3 := HBQ2.out.cell (j := 0) rfl
              have q4 := HBQ2.out.cell (j := 1) rfl
              have hsz7 := HBQ.out.size
              by_cases hst : s1 = t1
              · have g1 : (((s1 : Nat) : Int) == ((t1 : Nat) : Int)) = true := by rw [hst]; simp
                have e1 : addO (s1, s2) (t1, t2) = [] := by unfold addO; rw [if_pos hst]
                have e2 : dropO (s1, s2) (t1, t2) = [] := by unfold dropO; rw [if_pos hst]
                rw [e1, List.append_nil] at HPA
                rw [e2, List.append_nil] at HPD
                clear hst e1 e2
                go_wp2_with fail
                exact ⟨⟨k + 1, AA, cA, AD, cD, by rw [HPA.out], by rw [HPD.out], val_succ (k + 1), hlt, by rw [HPA.out]; exact HAA, by rw [HPD.out]; exact HAD, HDJ, HBQ⟩, meas_lt2 hlt⟩
              · have g1 : (((s1 : Nat) : Int) == ((t1 : Nat) : Int)) = false := by simp only [beq_eq_false_iff_ne, ne_eq]; omega
                by_cases hc : s2 = true ∧ t2 = false
                · obtain ⟨rfl, rfl⟩ := hc
                  have e1 : addO (s1, true) (t1, false) = [(s1, t1)] := by unfold addO; simp [hst]
                  have e2 : dropO (s1, true) (t1, false) = [] := by unfold dropO; simp
                  rw [e1] at HPA
                  rw [e2, List.append_nil] at HPD
                  clear hst e1 e2
                  go_wp2_with (at_builtin; refine wpList_pushD w7 _ _ w6.heap.size AA _ cA _ (s1, t1) HAA.out hsz7 (by omega) rfl rfl rfl rfl ?_; intro g8 c8 w8 hown8 hgr8 hor8; have HO8 := Lib.hid hown8; have HG8 := Lib.hid hgr8; have HR8 := Lib.hid hor8; clear hown8 hgr8 hor8)
                  have HB8 := Lib.hid (HBQ.out.grown HG8.out hsz7 (fun x hx => (HAA.out.lt x hx).1))
                  have hod8 := HAD.out.kept HG8.out (by
                    rw [ob_own, ob_own]
                    cases hx : ob AD with
                    | none => exact .inl rfl
                    | some x => exact .inr (fun e => HDJ.out x e.symm hx))
                  refine ⟨⟨k + 1, some ⟨g8, 0, none⟩, c8, AD, cD, by rw [HPA.out, List.length_append]; rfl, by rw [HPD.out], val_succ (k + 1), hlt, Lib.hid (by rw [HPA.out, List.length_append]; exact HO8.out), Lib.hid (by rw [HPD.out]; exact hod8), Lib.hid (fun x hx => ?_), HB8⟩, meas_lt2 hlt⟩
                  injection hx with hx
                  rcases HR8.out with h | h
                  · exact fun e => HDJ.out g8 h (by rw [← hx] at e; exact e)
                  · intro e
                    have := (own_ob' HAD.out e).2
                    have hx' : g8 = x := hx
                    omega
                · have hcb : (s2 && !t2) = false := by
                    cases s2 <;> cases t2 <;> simp at hc ⊢
                  have e1 : addO (s1, s2) (t1, t2) = [] := by unfold addO; rw [if_neg hst, if_neg hc]
                  have e2 : dropO (s1, s2) (t1, t2) = [(t1, s1)] := by unfold dropO; rw [if_neg hst, if_neg hc]
                  rw [e1, List.append_nil] at HPA
                  rw [e2] at HPD
                  clear hst e1 e2
                  cases s2 <;> cases t2
                  · clear hc hcb
                    go_wp2_with (at_builtin; refine wpList_pushD w7 _ _ w6.heap.size AD _ cD _ (t1, s1) HAD.out hsz7 (by omega) rfl rfl rfl rfl ?_; intro g8 c8 w8 hown8 hgr8 hor8; have HO8 := Lib.hid hown8; have HG8 := Lib.hid hgr8; have HR8 := Lib.hid hor8; clear hown8 hgr8 hor8)
                    have HB8 := Lib.hid (HBQ.out.grown HG8.out hsz7 (fun x hx => (HAD.out.lt x hx).1))
                    have hoa8 := HAA.out.kept HG8.out (by
                      rw [ob_own, ob_own]
                      cases hx : ob AA with
                      | none => exact .inl rfl
                      | some x => exact .inr (fun e => HDJ.out x hx e.symm))
                    refine ⟨⟨k + 1, AA, cA, some ⟨g8, 0, none⟩, c8, by rw [HPA.out], by rw [HPD.out, List.length_append]; rfl, val_succ (k + 1), hlt, Lib.hid (by rw [HPA.out]; exact hoa8), Lib.hid (by rw [HPD.out, List.length_append]; exact HO8.out), Lib.hid (fun x hx e => ?_), HB8⟩, meas_lt2 hlt⟩
                    injection e with e
                    have hx' : g8 = x := e
                    rcases HR8.out with h | h
                    · exact HDJ.out x hx (by rw [← hx']; exact h)
                    · have := (own_ob' HAA.out hx).2
                      omega
                  · clear hc hcb
                    go_wp2_with (at_builtin; refine wpList_pushD w7 _ _ w6.heap.size AD _ cD _ (t1, s1) HAD.out hsz7 (by omega) rfl rfl rfl rfl ?_; intro g8 c8 w8 hown8 hgr8 hor8; have HO8 := Lib.hid hown8; have HG8 := Lib.hid hgr8; have HR8 := Lib.hid hor8; clear hown8 hgr8 hor8)
                    have HB8 := Lib.hid (HBQ.out.grown HG8.out hsz7 (fun x hx => (HAD.out.lt x hx).1))
                    have hoa8 := HAA.out.kept HG8.out (by
                      rw [ob_own, ob_own]
                      cases hx : ob AA with
                      | none => exact .inl rfl
                      | some x => exact .inr (fun e => HDJ.out x hx e.symm))
                    refine ⟨⟨k + 1, AA, cA, some ⟨g8, 0, none⟩, c8, by rw [HPA.out], by rw [HPD.out, List.length_append]; rfl, val_succ (k + 1), hlt, Lib.hid (by rw [HPA.out]; exact hoa8), Lib.hid (by rw [HPD.out, List.length_append]; exact HO8.out), Lib.hid (fun x hx e => ?_), HB8⟩, meas_lt2 hlt⟩
                    injection e with e
                    have hx' : g8 = x := e
                    rcases HR8.out with h | h
                    · exact HDJ.out x hx (by rw [← hx']; exact h)
                    · have := (own_ob' HAA.out hx).2
                      omega
                  · simp at hcb
                  · clear hc hcb
                    go_wp2_with (at_builtin; refine wpList_pushD w7 _ _ w6.heap.size AD _ cD _ (t1, s1) HAD.out hsz7 (by omega) rfl rfl rfl rfl ?_; intro g8 c8 w8 hown8 hgr8 hor8; have HO8 := Lib.hid hown8; have HG8 := Lib.hid hgr8; have HR8 := Lib.hid hor8; clear hown8 hgr8 hor8)
                    have HB8 := Lib.hid (HBQ.out.grown HG8.out hsz7 (fun x hx => (HAD.out.lt x hx).1))
                    have hoa8 := HAA.out.kept HG8.out (by
                      rw [ob_own, ob_own]
                      cases hx : ob AA with
                      | none => exact .inl rfl
                      | some x => exact .inr (fun e => HDJ.out x hx e.symm))
                    refine ⟨⟨k + 1, AA, cA, some ⟨g8, 0, none⟩, c8, by rw [HPA.out], by rw [HPD.out, List.length_append]; rfl, val_succ (k + 1), hlt, Lib.hid (by rw [HPA.out]; exact hoa8), Lib.hid (by rw [HPD.out, List.length_append]; exact HO8.out), Lib.hid (fun x hx e => ?_), HB8⟩, meas_lt2 hlt⟩
                    injection e with e
                    have hx' : g8 = x := e
                    rcases HR8.out with h | h
                    · exact HDJ.out x hx (by rw [← hx']; exact h)
                    · have := (own_ob' HAA.out hx).2
                      omega
            · obtain ⟨hbP, hbQ, hbW⟩ := two_new wr #[.int .i64 (t1 : Int), .bool t2] #[.int .i64 (s1 : Int), .bool s2] 104
              have HBQ := Lib.hid (HBR2.out.trans (hbW.mono HBR2.out.size))
              have HAA := Lib.hid (own_belowN hoa.out hbW)
              have HAD := Lib.hid (own_belowN hod.out hbW)
              have HBQ1 := Lib.hid hbQ
              have HBQ2 := Lib.hid hbP
              clear hbP hbQ hbW c1 c2 c3 c4 a1 a2 a3 a4 b1 b2 b3 b4 hoa hod HBR2
              generalize ((wr.alloc (.cells #[.int .i64 (t1 : Int), .bool t2] 104)).alloc (.cells #[.int .i64 (s1 : Int), .bool s2] 104)).drew = w7 at HBQ HAA HAD HBQ1 HBQ2 ⊢
              have q1 := HBQ1.out.cell (j := 0) rfl
              have q2 := HBQ1.out.cell (j := 1) rfl
              have q3 := HBQ2.out.cell (j := 0) rfl
              have q4 := HBQ2.out.cell (j := 1) rfl
              have hsz7 := HBQ.out.size
              by_cases hst : s1 = t1
              · have g1 : (((s1 : Nat) : Int) == ((t1 : Nat) : Int)) = true := by rw [hst]; simp
                have e1 : addO (s1, s2) (t1, t2) = [] := by unfold addO; rw [if_pos hst]
                have e2 : dropO (s1, s2) (t1, t2) = [] := by unfold dropO; rw [if_pos hst]
                rw [e1, List.append_nil] at HPA
                rw [e2, List.append_nil] at HPD
                clear hst e1 e2
                go_wp2_with fail
                exact ⟨⟨k + 1, AA, cA, AD, cD, by rw [HPA.out], by rw [HPD.out], val_succ (k + 1), hlt, by rw [HPA.out]; exact HAA, by rw [HPD.out]; exact HAD, HDJ, HBQ⟩, meas_lt2 hlt⟩
              · have g1 : (((s1 : Nat) : Int) == ((t1 : Nat) : Int)) = false := by simp only [beq_eq_false_iff_ne, ne_eq]; omega
                by_cases hc : s2 = true ∧ t2 = false
                · obtain ⟨rfl, rfl⟩ := hc
                  have e1 : addO (s1, true) (t1, false) = [(s1, t1)] := by unfold addO; simp [hst]
                  have e2 : dropO (s1, true) (t1, false) = [] := by unfold dropO; simp
                  rw [e1] at HPA
                  rw [e2, List.append_nil] at HPD
                  clear hst e1 e2
                  go_wp2_with (at_builtin; refine wpList_pushD w7 _ _ w6.heap.size AA _ cA _ (s1, t1) HAA.out hsz7 (by omega) rfl rfl rfl rfl ?_; intro g8 c8 w8 hown8 hgr8 hor8; have HO8 := Lib.hid hown8; have HG8 := Lib.hid hgr8; have HR8 := Lib.hid hor8; clear hown8 hgr8 hor8)
                  have HB8 := Lib.hid (HBQ.out.grown HG8.out hsz7 (fun x hx => (HAA.out.lt x hx).1))
                  have hod8 := HAD.out.kept HG8.out (by
                    rw [ob_own, ob_own]
                    cases hx : ob AD with
                    | none => exact .inl rfl
                    | some x => exact .inr (fun e => HDJ.out x e.symm hx))
                  refine ⟨⟨k + 1, some ⟨g8, 0, none⟩, c8, AD, cD, by rw [HPA.out, List.length_append]; rfl, by rw [HPD.out], val_succ (k + 1), hlt, Lib.hid (by rw [HPA.out, List.length_append]; exact HO8.out), Lib.hid (by rw [HPD.out]; exact hod8), Lib.hid (fun x hx => ?_), HB8⟩, meas_lt2 hlt⟩
                  injection hx with hx
                  rcases HR8.out with h | h
                  · exact fun e => HDJ.out g8 h (by rw [← hx] at e; exact e)
                  · intro e
                    have := (own_ob' HAD.out e).2
                    have hx' : g8 = x := hx
                    omega
                · have hcb : (s2 && !t2) = false := by
                    cases s2 <;> cases t2 <;> simp at hc ⊢
                  have e1 : addO (s1, s2) (t1, t2) = [] := by unfold addO; rw [if_neg hst, if_neg hc]
                  have e2 : dropO (s1, s2) (t1, t2) = [(t1, s1)] := by unfold dropO; rw [if_neg hst, if_neg hc]
                  rw [e1, List.append_nil] at HPA
                  rw [e2] at HPD
                  clear hst e1 e2
                  cases s2 <;> cases t2
                  · clear hc hcb
                    go_wp2_with (at_builtin; refine wpList_pushD w7 _ _ w6.heap.size AD _ cD _ (t1, s1) HAD.out hsz7 (by omega) rfl rfl rfl rfl ?_; intro g8 c8 w8 hown8 hgr8 hor8; have HO8 := Lib.hid hown8; have HG8 := Lib.hid hgr8; have HR8 := Lib.hid hor8; clear hown8 hgr8 hor8)
                    have HB8 := Lib.hid (HBQ.out.grown HG8.out hsz7 (fun x hx => (HAD.out.lt x hx).1))
                    have hoa8 := HAA.out.kept HG8.out (by
                      rw [ob_own, ob_own]
                      cases hx : ob AA with
                      | none => exact .inl rfl
                      | some x => exact .inr (fun e => HDJ.out x hx e.symm))
                    refine ⟨⟨k + 1, AA, cA, some ⟨g8, 0, none⟩, c8, by rw [HPA.out], by rw [HPD.out, List.length_append]; rfl, val_succ (k + 1), hlt, Lib.hid (by rw [HPA.out]; exact hoa8), Lib.hid (by rw [HPD.out, List.length_append]; exact HO8.out), Lib.hid (fun x hx e => ?_), HB8⟩, meas_lt2 hlt⟩
                    injection e with e
                    have hx' : g8 = x := e
                    rcases HR8.out with h | h
                    · exact HDJ.out x hx (by rw [← hx']; exact h)
                    · have := (own_ob' HAA.out hx).2
                      omega
                  · clear hc hcb
                    go_wp2_with (at_builtin; refine wpList_pushD w7 _ _ w6.heap.size AD _ cD _ (t1, s1) HAD.out hsz7 (by omega) rfl rfl rfl rfl ?_; intro g8 c8 w8 hown8 hgr8 hor8; have HO8 := Lib.hid hown8; have HG8 := Lib.hid hgr8; have HR8 := Lib.hid hor8; clear hown8 hgr8 hor8)
                    have HB8 := Lib.hid (HBQ.out.grown HG8.out hsz7 (fun x hx => (HAD.out.lt x hx).1))
                    have hoa8 := HAA.out.kept HG8.out (by
                      rw [ob_own, ob_own]
                      cases hx : ob AA with
                      | none => exact .inl rfl
                      | some x => exact .inr (fun e => HDJ.out x hx e.symm))
                    refine ⟨⟨k + 1, AA, cA, some ⟨g8, 0, none⟩, c8, by rw [HPA.out], by rw [HPD.out, List.length_append]; rfl, val_succ (k + 1), hlt, Lib.hid (by rw [HPA.out]; exact hoa8), Lib.hid (by rw [HPD.out, List.length_append]; exact HO8.out), Lib.hid (fun x hx e => ?_), HB8⟩, meas_lt2 hlt⟩
                    injection e with e
                    have hx' : g8 = x := e
                    rcases HR8.out with h | h
                    · exact HDJ.out x hx (by rw [← hx']; exact h)
                    · have := (own_ob' HAA.out hx).2
                      omega
                  · simp at hcb
                  · clear hc hcb
                    go_wp2_with (at_builtin; refine wpList_pushD w7 _ _ w6.heap.size AD _ cD _ (t1, s1) HAD.out hsz7 (by omega) rfl rfl rfl rfl ?_; intro g8 c8 w8 hown8 hgr8 hor8; have HO8 := Lib.hid hown8; have HG8 := Lib.hid hgr8; have HR8 := Lib.hid hor8; clear hown8 hgr8 hor8)
                    have HB8 := Lib.hid (HBQ.out.grown HG8.out hsz7 (fun x hx => (HAD.out.lt x hx).1))
                    have hoa8 := HAA.out.kept HG8.out (by
                      rw [ob_own, ob_own]
                      cases hx : ob AA with
                      | none => exact .inl rfl
                      | some x => exact .inr (fun e => HDJ.out x hx e.symm))
                    refine ⟨⟨k + 1, AA, cA, some ⟨g8, 0, none⟩, c8, by rw [HPA.out], by rw [HPD.out, List.length_append]; rfl, val_succ (k + 1), hlt, Lib.hid (by rw [HPA.out]; exact hoa8), Lib.hid (by rw [HPD.out, List.length_append]; exact HO8.out), Lib.hid (fun x hx e => ?_), HB8⟩, meas_lt2 hlt⟩
                    injection e with e
                    have hx' : g8 = x := e
                    rcases HR8.out with h | h
                    · exact HDJ.out x hx (by rw [← hx']; exact h)
                    · have := (own_ob' HAA.out hx).2
                      omega
          · obtain rfl : rl = k := by omega
            have hkk : rl = pp.length - 1 := by omega
            obtain ⟨l1, l2, l3, l4⟩ := HF1.out.lts
            have h16 := HB6.out.trans (HBR2.out.mono HB6.out.size)
            have hz6 := HB6.out.size
            have HLR : Hid (LR Wb wr BF bN bA A n c a b st F cF w6.heap.size AA (pairsL addO pp rl).length cA (dV (pairsL addO pp rl)) AD (pairsL dropO pp rl).length cD (dV (pairsL dropO pp rl))) := Lib.hid
              ⟨HF1.out.below h16, HBW.out.trans ((HB1.out.trans (h16.mono HB1.out.size)).mono HBW.out.size), hoa.out, hod.out, ⟨by omega, by omega, by omega⟩, fun g hg => ⟨fun e => (by have := (own_ob' hoa.out e).1; have := l4 g hg; omega), fun e => (by have := (own_ob' hod.out e).1; have := l4 g hg; omega)⟩⟩
            obtain ⟨hia, hid⟩ := pairs_in HSW.out HPN.out
            have hae : FInv l a b ((pairsL addO pp (pp.length - 1)).foldl (addF a b) ((pairsL dropO pp (pp.length - 1)).foldl dropF st)) ∧ ((pairsL addO pp (pp.length - 1)).foldl (addF a b) ((pairsL dropO pp (pp.length - 1)).foldl dropF st)).fs.length = st.fs.length + 1 := aug_end HSW.out HI.out
            rw [← hkk] at hia hid hae
            have HAIN := Lib.hid hia
            have HDIN := Lib.hid hid
            have HAE := Lib.hid hae
            have hfl : st.fs.length ≤ 64 := Nat.le_trans (fs_len HG.out HI.out) HG.out.1
            clear hia hid hae hkk hoa hod HDJ HBR2 h16 HB6 HO6 HSW HPN l1 l2 l3 l4 hz6
            generalize w6.heap.size = B2 at HLR ⊢
            generalize pairsL addO pp rl = AL at HLR HAIN HAE hla ⊢
            generalize pairsL dropO pp rl = DL at HLR HDIN HAE hld ⊢
            go_wp2_with fail
            go_loopw [106] (fun x wr => ∃ (j : Nat), x = .int .i64 (j : Int) ∧ j ≤ DL.length ∧ Hid (LR Wb wr BF bN bA A n c a b ((DL.take j).foldl dropF st) F cF B2 AA AL.length cA (dV AL) AD DL.length cD (dV DL))) (fun x _ => DL.length - (intOf x).toNat)
            case atStart => exact ⟨0, rfl, Nat.zero_le _, HLR⟩
            case round =>
              clear HLR
              obtain ⟨j, rfl, hj, HLR⟩ := hrel
              by_cases hlt : j < DL.length
              · obtain ⟨⟨d1, d2⟩, hd⟩ : ∃ d : Nat × Nat, DL[j]? = some d := ⟨DL[j], List.getElem?_eq_getElem hlt⟩
                have HST := Lib.hid (fold_next dropF st DL hd)
                obtain ⟨hi1, hi2⟩ := HDIN.out _ (List.mem_of_getElem? hd)
                obtain ⟨gD, rfl⟩ := own_someD HLR.out.rd (by omega)
                obtain ⟨c1, c2⟩ := own_dv HLR.out.rd rfl hd
                have HL4 := Lib.hid (HLR.out.below (below_new (Below.refl _ _) (.cells #[.int .i64 (d1 : Int), .int .i64 (d2 : Int)] 172)))
                have HX4 := Lib.hid (Blk.new wr #[.int .i64 (d1 : Int), .int .i64 (d2 : Int)] 172)
                clear hd
                generalize (DL.take j).foldl dropF st = s3 at HST HLR HL4
                go_wp2_with fail
                have HBN : wr.heap.size ≠ bN := by have := HLR.out.fl.lts.2.1; omega
                have HBA : wr.heap.size ≠ bA := by have := HLR.out.fl.lts.2.2.1; omega
                clear c1 c2 HLR
                generalize wr.alloc (.cells #[.int .i64 (d1 : Int), .int .i64 (d2 : Int)] 172) = w9 at HL4 HX4 ⊢
                generalize wr.heap.size = bx at HX4 HBN HBA ⊢
                have y1 : w9.cell? ⟨bx, 0, none⟩ = some (.int .i64 (d1 : Int)) := HX4.out.cell (j := 0) rfl
                have y2 : w9.cell? ⟨bx, 1, none⟩ = some (.int .i64 (d2 : Int)) := HX4.out.cell (j := 1) rfl
                have y3 := HL4.out.fl.box.cell (j := 3) rfl
                have y4 := HL4.out.fl.box.cell (j := 4) rfl
                have u1 := HL4.out.fl.nxCell hi1
                have f1 := HL4.out.fl.nx.frozenAt d1
                have HL5 := Lib.hid (HL4.out.setNx d1 (-1))
                have u2 := HL5.out.fl.ahCell hi2
                have f2 := HL5.out.fl.ah.frozenAt d2
                have HL6 := Lib.hid (HL5.out.setAh d2 (-1)).drew
                have q2 := (HX4.out.other (a := ⟨bN, d1, none⟩) HBN (.int .i64 (-1))).cell (j := 1) rfl
                have q1 := (HX4.out.other (a := ⟨bN, d1, none⟩) HBN (.int .i64 (-1))).cell (j := 0) rfl
                have q3 := HL5.out.fl.box.cell (j := 3) rfl
                have q4 := HL5.out.fl.box.cell (j := 4) rfl
                go_region
                clear y1 y2 y3 y4 u1 u2 f1 f2 q1 q2 q3 q4 HL4 HL5 HX4
                generalize ((w9.setCell ⟨bN, d1, none⟩ (.int .i64 (-1))).setCell ⟨bA, d2, none⟩ (.int .i64 (-1))).drew = w10 at HL6 ⊢
                go_wp2_with fail
                exact ⟨⟨j + 1, by first | exact val_succ j | exact (Int.natCast_succ j).symm, hlt, Lib.hid (by rw [HST.out]; exact HL6.out)⟩, meas_lt hlt⟩
              · obtain rfl : j = DL.length := by omega
                rw [List.take_length] at HLR
                have HS2L : Hid ((DL.foldl dropF st).fs.length ≤ 64) := Lib.hid (by rw [drops_fs]; exact hfl)
                have HST0 : Hid ((DL.foldl dropF st).fs.length = st.fs.length) := Lib.hid (by rw [drops_fs])
                clear HDIN
                generalize DL.foldl dropF st = s2 at HLR HAE HS2L HST0
                go_wp2_with fail
                go_loopw [127] (fun x wr => ∃ (j : Nat) (F' : Option Addr) (cF' : Nat), x = .int .i64 (j : Int) ∧ j ≤ AL.length ∧ Hid (LR Wb wr BF bN bA A n c a b ((AL.take j).foldl (addF a b) s2) F' cF' B2 AA AL.length cA (dV AL) AD DL.length cD (dV DL))) (fun x _ => AL.length - (intOf x).toNat)
                case atStart => exact ⟨0, F, cF, rfl, Nat.zero_le _, HLR⟩
                case round =>
                  clear HLR
                  obtain ⟨j, F', cF', rfl, hj, HLR⟩ := hrel
                  by_cases hlt : j < AL.length
                  · obtain ⟨⟨d1, d2⟩, hd⟩ : ∃ d : Nat × Nat, AL[j]? = some d := ⟨AL[j], List.getElem?_eq_getElem hlt⟩
                    have HST := Lib.hid (fold_next (addF a b) s2 AL hd)
                    obtain ⟨hi1, hi2⟩ := HAIN.out _ (List.mem_of_getElem? hd)
                    obtain ⟨gA, rfl⟩ := own_someD HLR.out.ra (by omega)
                    obtain ⟨c1, c2⟩ := own_dv HLR.out.ra rfl hd
                    have HL4 := Lib.hid (HLR.out.below (below_new (Below.refl _ _) (.cells #[.int .i64 (d1 : Int), .int .i64 (d2 : Int)] 172)))
                    have HX4 := Lib.hid (Blk.new wr #[.int .i64 (d1 : Int), .int .i64 (d2 : Int)] 172)
                    have hfl3 : ((AL.take j).foldl (addF a b) s2).fs.length ≤ 256 := by
                      have h1 := addF_len a b (AL.take j) s2
                      have h2 : (AL.take j).length ≤ j := by rw [List.length_take]; omega
                      have h3 := HS2L.out
                      omega
                    clear hd
                    generalize (AL.take j).foldl (addF a b) s2 = s3 at HST HLR HL4 hfl3
                    go_wp2_with fail
                    have HBL := Lib.hid HLR.out.fl.lts
                    clear c1 c2 HLR
                    generalize wr.alloc (.cells #[.int .i64 (d1 : Int), .int .i64 (d2 : Int)] 172) = w8 at HL4 HX4 ⊢
                    have hbxl := HX4.out.lt
                    have hbxF : Hid (∀ x, ob F' = some x → x ≠ wr.heap.size) := Lib.hid (fun x hx => by have := HBL.out.2.2.2 x hx; omega)
                    have hbxN : wr.heap.size ≠ bN := by have := HBL.out.2.1; omega
                    have hbxB : wr.heap.size ≠ BF := by have := HBL.out.1; omega
                    clear HBL
                    generalize wr.heap.size = bx at HX4 hbxl hbxF hbxN hbxB ⊢
                    have y1 := HX4.out.cell (j := 0) rfl
                    have y2 := HX4.out.cell (j := 1) rfl
                    have y3 := HL4.out.fl.box.cell (j := 1) rfl
                    by_cases hd1 : d1 = a
                    · subst hd1
                      go_wp2_with fail
                      go_quiet (fail)
                      have HLa := Lib.hid (HL4.out.drawN nq)
                      have HXa : Hid (Blk (w8.drewN nq) bx 172 [.int .i64 (d1 : Int), .int .i64 (d2 : Int)]) := Lib.hid HX4.out
                      clear HL4 HX4 y1 y2 y3
                      generalize w8.drewN nq = wa at HLa HXa ⊢
                      have y2 := HXa.out.cell (j := 1) rfl
                      have y3 := HLa.out.fl.box.cell (j := 5) rfl
                      have hza := HLa.out.bel.size
                      have hBFa := HLa.out.fl.lts.1
                      have hbxa := HXa.out.lt
                      have HLd := Lib.hid (HLa.out.drew.below (below_new (Below.refl _ _) (.cells #[nv d2] 3)))
                      have HXd : Hid (Blk (wa.drew.alloc (.cells #[nv d2] 3)) bx 172 [.int .i64 (d1 : Int), .int .i64 (d2 : Int)]) := Lib.hid (HXa.out.below (w' := wa.drew.alloc (.cells #[nv d2] 3)) (B := wa.heap.size) ((below_drew' (Below.refl wa.heap.size wa)).alloc (Nat.le_refl _) _) HXa.out.lt)
                      have hbxd := HXd.out.lt
                      obtain ⟨ht, i0, hi0, hz0, hs0, hb0, hzs0⟩ := elInt
                      go_wp2_with fail
                      go_region_law ((refine step_append_lies _ (by rfl) _ _ _ (by rfl) Wb.heap.size 3 i0 _ 1 8 ht hi0 hz0 hs0 hb0 hzs0 (by decide) (.slice F' s3.fs.length cF') s3.fs.length (s3.fs.map nv) (by rfl) ((HLa.out.fl.fs.drew).alloc _) ⟨wa.heap.size, 0, none⟩ 1 1 [nv d2] (by rfl) rfl (World.news_of_block (heap_alloc_new wa.drew _)) (by intro u hu; rw [List.mem_singleton] at hu; rw [hu]; rfl) (by omega) (by unfold maxLen; omega) (by omega) (by simp; omega) (wa.heap.size + 1) (by simp) ?_; intro g9 c9 w9 hown9 hgr9 hat9 _; have y9 := (HLd.out.boxG hgr9).cell (j := 5) rfl; have f9 := (HLd.out.boxG hgr9).free 5; have HL5 := Lib.hid (HLd.out.pushF (k := d2) hown9 hgr9 (hat9.imp id (fun e => by subst e; simp))); have HX5 := Lib.hid (HXd.out.grownB hgr9 hbxd hbxF.out hbxB (.slice (some ⟨g9, 0, none⟩) (s3.fs.length + 1) c9)); clear hown9 hgr9 hat9))
                      all_goals (
                        clear y2 y3 y9 f9 ht hi0 hz0 hs0 hb0 hzs0 HLd HXd HLa HXa
                        generalize w9.setCell ⟨BF, 5, none⟩ (.slice (some ⟨g9, 0, none⟩) (s3.fs.length + 1) c9) = w9 at HL5 HX5 ⊢
                        have y1 := HX5.out.cell (j := 0) rfl
                        have y2 := HX5.out.cell (j := 1) rfl
                        have y3 := HL5.out.fl.box.cell (j := 2) rfl
                        by_cases hd2 : d2 = b
                        · subst hd2
                          have HS5 : Hid ((AL.take (j + 1)).foldl (addF d1 d2) s2 = ⟨s3.nx, s3.ah, s3.fs ++ [d2]⟩) := Lib.hid (by rw [HST.out]; unfold addF; simp)
                          go_wp2_with fail
                          go_quiet (fail)
                          have HL6 := Lib.hid (HL5.out.drawN nq)
                          clear HL5 HX5 y1 y2 y3
                          generalize w9.drewN nq = w10 at HL6 ⊢
                          go_wp2_with fail
                          go_roundw
                          case rel => exact ⟨j + 1, some ⟨g9, 0, none⟩, c9, by first | exact val_succ j | exact (Int.natCast_succ j).symm, hlt, Lib.hid (by rw [HS5.out]; exact HL6.out)⟩
                          case measure => exact meas_lt hlt
                        · have g2 : (((d2 : Nat) : Int) != ((b : Nat) : Int)) = true := by simp only [bne_iff_ne, ne_eq]; omega
                          have HS5 : Hid ((AL.take (j + 1)).foldl (addF d1 b) s2 = ⟨s3.nx, setF s3.ah d2 (d1 : Nat), s3.fs ++ [d2]⟩) := Lib.hid (by rw [HST.out]; unfold addF; simp [hd2])
                          clear hd2
                          go_wp2_with fail
                          go_quiet (fail)
                          have HL6 := Lib.hid (HL5.out.drawN nq)
                          have HX6 : Hid (Blk (w9.drewN nq) bx 172 [.int .i64 (d1 : Int), .int .i64 (d2 : Int)]) := Lib.hid HX5.out
                          clear HL5 HX5 y1 y2 y3
                          generalize w9.drewN nq = w10 at HL6 HX6 ⊢
                          have y1 := HX6.out.cell (j := 0) rfl
                          have y2 := HX6.out.cell (j := 1) rfl
                          have y4 := HL6.out.fl.box.cell (j := 4) rfl
                          have u2 := HL6.out.fl.ahCell hi2
                          have f2 := HL6.out.fl.ah.frozenAt d2
                          have HL7 := Lib.hid (HL6.out.setAh d2 (d1 : Nat)).drew
                          go_wp2_with fail
                          go_region
                          clear y1 y2 y4 u2 f2 HX6 HL6
                          generalize (w10.setCell ⟨bA, d2, none⟩ (.int .i64 (d1 : Nat))).drew = w11 at HL7 ⊢
                          go_wp2_with fail
                          go_roundw
                          case rel => exact ⟨j + 1, some ⟨g9, 0, none⟩, c9, by first | exact val_succ j | exact (Int.natCast_succ j).symm, hlt, Lib.hid (by rw [HS5.out]; exact HL7.out)⟩
                          case measure => exact meas_lt hlt)
                    · have g1 : (((d1 : Nat) : Int) == ((a : Nat) : Int)) = false := by simp only [beq_eq_false_iff_ne, ne_eq]; omega
                      go_wp2_with fail
                      go_quiet (fail)
                      have HLa := Lib.hid (HL4.out.drawN nq)
                      have HXa : Hid (Blk (w8.drewN nq) bx 172 [.int .i64 (d1 : Int), .int .i64 (d2 : Int)]) := Lib.hid HX4.out
                      clear HL4 HX4 y1 y2 y3
                      generalize w8.drewN nq = wa at HLa HXa ⊢
                      have y1 := HXa.out.cell (j := 0) rfl
                      have y2 := HXa.out.cell (j := 1) rfl
                      have y3 := HLa.out.fl.box.cell (j := 3) rfl
                      have u1 := HLa.out.fl.nxCell hi1
                      have f1 := HLa.out.fl.nx.frozenAt d1
                      have HL5 := Lib.hid (HLa.out.setNx d1 (d2 : Nat)).drew
                      have HX5 : Hid (Blk (wa.setCell ⟨bN, d1, none⟩ (.int .i64 (d2 : Nat))).drew bx 172 [.int .i64 (d1 : Int), .int .i64 (d2 : Int)]) := Lib.hid (HXa.out.other (a := ⟨bN, d1, none⟩) hbxN _)
                      go_wp2_with fail
                      go_region
                      clear y1 y2 y3 u1 f1 HLa HXa
                      generalize (wa.setCell ⟨bN, d1, none⟩ (.int .i64 (d2 : Nat))).drew = w9 at HL5 HX5 ⊢
                      have y1 := HX5.out.cell (j := 0) rfl
                      have y2 := HX5.out.cell (j := 1) rfl
                      have y3 := HL5.out.fl.box.cell (j := 2) rfl
                      by_cases hd2 : d2 = b
                      · subst hd2
                        have HS5 : Hid ((AL.take (j + 1)).foldl (addF a d2) s2 = ⟨setF s3.nx d1 (d2 : Nat), s3.ah, s3.fs⟩) := Lib.hid (by rw [HST.out]; unfold addF; simp [hd1])
                        go_wp2_with fail
                        go_quiet (fail)
                        have HL6 := Lib.hid (HL5.out.drawN nq)
                        clear HL5 HX5 y1 y2 y3
                        generalize w9.drewN nq = w10 at HL6 ⊢
                        go_wp2_with fail
                        go_roundw
                        case rel => exact ⟨j + 1, F', cF', by first | exact val_succ j | exact (Int.natCast_succ j).symm, hlt, Lib.hid (by rw [HS5.out]; exact HL6.out)⟩
                        case measure => exact meas_lt hlt
                      · have g2 : (((d2 : Nat) : Int) != ((b : Nat) : Int)) = true := by simp only [bne_iff_ne, ne_eq]; omega
                        have HS5 : Hid ((AL.take (j + 1)).foldl (addF a b) s2 = ⟨setF s3.nx d1 (d2 : Nat), setF s3.ah d2 (d1 : Nat), s3.fs⟩) := Lib.hid (by rw [HST.out]; unfold addF; simp [hd2, hd1])
                        clear hd2
                        go_wp2_with fail
                        go_quiet (fail)
                        have HL6 := Lib.hid (HL5.out.drawN nq)
                        have HX6 : Hid (Blk (w9.drewN nq) bx 172 [.int .i64 (d1 : Int), .int .i64 (d2 : Int)]) := Lib.hid HX5.out
                        clear HL5 HX5 y1 y2 y3
                        generalize w9.drewN nq = w10 at HL6 HX6 ⊢
                        have y1 := HX6.out.cell (j := 0) rfl
                        have y2 := HX6.out.cell (j := 1) rfl
                        have y4 := HL6.out.fl.box.cell (j := 4) rfl
                        have u2 := HL6.out.fl.ahCell hi2
                        have f2 := HL6.out.fl.ah.frozenAt d2
                        have HL7 := Lib.hid (HL6.out.setAh d2 (d1 : Nat)).drew
                        go_wp2_with fail
                        go_region
                        clear y1 y2 y4 u2 f2 HX6 HL6
                        generalize (w10.setCell ⟨bA, d2, none⟩ (.int .i64 (d1 : Nat))).drew = w11 at HL7 ⊢
                        go_wp2_with fail
                        go_roundw
                        case rel => exact ⟨j + 1, F', cF', by first | exact val_succ j | exact (Int.natCast_succ j).symm, hlt, Lib.hid (by rw [HS5.out]; exact HL7.out)⟩
                        case measure => exact meas_lt hlt
                  · obtain rfl : j = AL.length := by omega
                    rw [List.take_length] at HLR
                    go_wp2_with fail
                    go_ret
                    exact ⟨HLR.out.bel, .inr ⟨rfl, _, F', cF', HAE.out.1, HAE.out.2, HLR.out.fl⟩⟩
      · have g1 : (((s1 : Nat) : Int) != ((a : Nat) : Int)) = true := by simp only [bne_iff_ne, ne_eq]; omega
        have HSA := Lib.hid hsa
        clear hsa
        go_wp2_with fail
        go_quiet (fail)
        have HBR1 := Lib.hid (below_drewN HBR.out nq)
        have HBP1 : Hid (Blk (wr.drewN nq) p 104 [.int .i64 (s1 : Int), .bool s2]) := Lib.hid HBP.out
        have HOW1 := Lib.hid (HOW.out.kept (w' := wr.drewN nq) (row := none) ⟨rfl, rfl, rfl, Nat.le_refl _, fun _ _ _ => rfl⟩ (by cases A' <;> simp [Value.ownBlock]))
        clear t1 t2 x1 HFW HBR HBP HOW
        generalize wr.drewN nq = w4 at HBR1 HBP1 HOW1 ⊢
        have t1 := HBP1.out.cell (j := 0) rfl
        have t2 := HBP1.out.cell (j := 1) rfl
        have hsz := HBR1.out.size
        go_wp2_with (at_builtin; refine wpList_pushS w4 _ _ w1.heap.size A' R.length c' R (s1, s2) HOW1.out hsz (by omega) rfl rfl rfl rfl ?_; intro g5 c5 w5 hown5 hb5 hgr5; have HO5 := Lib.hid hown5; have HB5 := Lib.hid (HBR1.out.trans hb5); have HBP5 : Hid (Blk w5 p 104 [.int .i64 (s1 : Int), .bool s2]) := Lib.hid (show w5.heap[p]? = _ from (hgr5.block p HBP1.out.lt (fun e => HNP.out p (by rw [ob_own] at e; exact e.symm) rfl)).trans HBP1.out); have q1 := HBP5.out.cell (j := 0) rfl; have q2 := HBP5.out.cell (j := 1) rfl; have HMB6 : Hid (MapB (w5.alloc (.cells #[.int .i64 (s1 : Int), .bool s2] 104)) bm M) := Lib.hid (HMB.out.same ((below_new5 HB5.out).block bm hbm1)); have hlk := look_at HMB6.out HK.out (show s1 < 64 by omega) HSI.out HAT.out; clear hown5 hb5 hgr5)
        obtain ⟨j, _, hti⟩ := HTI.out.step HSI.out HSA.out HAT.out
        have hz5 := HB5.out.size
        have hg5 := (HO5.out.lt g5 rfl).2
        refine ⟨⟨R ++ [(s1, s2)], (t1', t2'), j, some ⟨g5, 0, none⟩, c5, w5.heap.size, by rw [List.length_append]; rfl, rfl, hz5, Lib.hid (fun x hx => ?_), Lib.hid hti, Lib.hid ?_, Lib.hid (Blk.new w5 #[.int .i64 (t1' : Int), .bool t2'] 104), Lib.hid (below_new5 HB5.out)⟩, ?_⟩
        · injection hx with hx
          subst hx
          exact Nat.ne_of_lt hg5
        · rw [List.length_append]
          exact HO5.out.alloc _
        · simp only [sliceLen]
          omega
end Go.Proofs.YtonmkmghpiagjaaDoor

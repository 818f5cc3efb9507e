/- Contracts that the law's proof leans on, and plain lemmas to them, merged. No condition beyond each contract's own hypotheses. -/
import Derived.Test.YtoandhhkmkgmaaaGreatDoorMg40
import Derived.Test.YtoandhhkmkgmaaaGreatDoorMg41
import Derived.Test.YtoandhhkmkgmaaaGreatDoorMg5
import Derived.Test.YtoandhhkmkgmaaaGreatDoorMg2
namespace Go.Proofs.YtoandhhkmkgmaaaGreatDoor
open Go.RowKit

def setIn (N l : List KeyT) : Nat := setP N.length fun i => inL l (N.getD i [])
theorem setIn_bit (N l : List KeyT) (j : Nat) : (setIn N l).testBit j = (decide (j < N.length) && inL l (N.getD j [])) := setP_bit _ _ _
theorem setIn_b64 {N : List KeyT} (l : List KeyT) (h : N.length ≤ 64) : B64 (setIn N l) := setP_b64 _ h
theorem inL_snoc (l : List KeyT) (x s : KeyT) : inL (l ++ [x]) s = (inL l s || decide (s = x)) := by unfold inL; simp
theorem getD_at {N : List KeyT} {j : Nat} (h : j < N.length) : N[j]? = some (N.getD j []) := by
 rw [List.getD_eq_getElem?_getD, List.getElem?_eq_getElem h]
 rfl
theorem up_inj {N : List KeyT} (h : Up N) {i j : Nat} {s : KeyT} (hi : N[i]? = some s) (hj : N[j]? = some s) : i = j := (List.getElem?_inj (List.getElem?_eq_some_iff.1 hi).1 (up_nodup h)).1 (hi.trans hj.symm)
theorem setIn_none (N : List KeyT) : setIn N [] = 0 := by
 apply set_ext
 intro j
 rw [setIn_bit]
 simp [inL]
theorem setIn_add {N l : List KeyT} (h : Up N) {k : Nat} {x : KeyT} (hk : N[k]? = some x) : setIn N (l ++ [x]) = addN (setIn N l) k := by
 apply set_ext
 intro j
 unfold addN
 rw [or_bit, setIn_bit, setIn_bit, inL_snoc]
 have hlt := (List.getElem?_eq_some_iff.1 hk).1
 by_cases hj : j < N.length
 ·have hj2 := getD_at hj
  by_cases hjk : k = j
  ·subst hjk
   have e : N.getD k [] = x := by rw [hk] at hj2; injection hj2 with hj2; exact hj2.symm
   rw [e]
   simp [hlt]
  ·have e : N.getD j [] ≠ x := fun e => hjk (up_inj h hk (by rw [← e]; exact hj2))
   generalize N.getD j [] = y at *
   simp [e, hjk]
 ·have hjk : k ≠ j := by omega
  simp [hj, hjk]
theorem setIn_skip {N l : List KeyT} {x : KeyT} (hx : x ∉ N) : setIn N (l ++ [x]) = setIn N l := by
 apply set_ext
 intro j
 rw [setIn_bit, setIn_bit, inL_snoc]
 by_cases hj : j < N.length
 ·have hj2 := getD_at hj
  have e : N.getD j [] ≠ x := fun e => hx (by rw [← e]; exact List.mem_of_getElem? hj2)
  generalize N.getD j [] = y at *
  simp [e]
 ·simp [hj]
def headP (r : RuleT) : KeyT := r.1.headD []
def edgesRule (N : List KeyT) (r : RuleT) : List EdgeT := (nums (setIn N r.2)).map fun d => (placeMax N (headP r), ((d : Nat) : Int))
def edgesMk (N : List KeyT) (rules : List RuleT) : List EdgeT := rules.flatMap (edgesRule N)
def rowM (N : List KeyT) (rules : List RuleT) (s : KeyT) : Nat := setP N.length fun j => rules.any fun x => decide (headP x = s) && inL x.2 (N.getD j [])
def rowsM (N : List KeyT) (rules : List RuleT) : List Nat := N.map (rowM N rules)
theorem rowM_bit (N : List KeyT) (rules : List RuleT) (s : KeyT) (j : Nat) : (rowM N rules s).testBit j = (decide (j < N.length) && rules.any fun x => decide (headP x = s) && inL x.2 (N.getD j [])) := setP_bit _ _ _
theorem rowM_none {N : List KeyT} {rules : List RuleT} {s : KeyT} (h : ∀ x ∈ rules, headP x ≠ s) : rowM N rules s = 0 := by
 apply set_ext
 intro j
 rw [rowM_bit]
 have : (rules.any fun x => decide (headP x = s) && inL x.2 (N.getD j [])) = false := by
  rw [List.any_eq_false]
  intro x hx
  simp [h x hx]
 rw [this]
 simp
theorem rowM_one {N : List KeyT} {rules : List RuleT} (hd : (rules.map headP).Nodup) {r : RuleT} (hr : r ∈ rules) : rowM N rules (headP r) = setIn N r.2 := by
 apply set_ext
 intro j
 rw [rowM_bit, setIn_bit]
 congr 1
 rw [Bool.eq_iff_iff, List.any_eq_true]
 constructor
 ·rintro ⟨x, hx, h⟩
  rw [Bool.and_eq_true, decide_eq_true_iff] at h
  have hxr : x = r := by
   obtain ⟨i, hi⟩ := List.mem_iff_getElem?.1 hx
   obtain ⟨k, hk⟩ := List.mem_iff_getElem?.1 hr
   have e1 : (rules.map headP)[i]? = some (headP r) := by rw [List.getElem?_map, hi]; exact congrArg some h.1
   have e2 : (rules.map headP)[k]? = some (headP r) := by rw [List.getElem?_map, hk]; rfl
   have := (List.getElem?_inj (List.getElem?_eq_some_iff.1 e1).1 hd).1 (e1.trans e2.symm)
   subst this
   rw [hi] at hk
   injection hk
  rw [← hxr]; exact h.2
 ·intro h
  exact ⟨r, hr, by rw [h]; simp⟩
theorem edges_same {N : List KeyT} {rules : List RuleT} (hN : Up N) (hr : Up (rules.map headP)) (hin : ∀ r ∈ rules, headP r ∈ N) : edgesMk N rules = edgesOf (rowsM N rules) := by
 have key : ∀ (M : List KeyT) (R : List RuleT), Up M → Up (R.map headP) → (∀ r ∈ R, headP r ∈ M) → (∀ r ∈ R, r ∈ rules) → (∀ r ∈ rules, headP r ∈ M → r ∈ R) →
  R.flatMap (edgesRule N) = M.flatMap fun s => (nums (rowM N rules s)).map fun d => (placeMax N s, ((d : Nat) : Int)) := by
  intro M
  induction M with
  | nil =>
    intro R _ _ hin _ _
    cases R with
    | nil => rfl
    | cons r R => exact absurd (hin r (List.mem_cons_self ..)) (by simp)
  | cons s M ih =>
    intro R hM hR hin hsub hall
    have hM' := (List.pairwise_cons.1 hM)
    rw [List.flatMap_cons]
    cases R with
    | nil =>
      have hno : ∀ x ∈ rules, headP x ≠ s := fun x hx e => by have := hall x hx (by rw [e]; exact List.mem_cons_self ..); cases this
      rw [rowM_none hno, nums_zero, ← ih [] hM'.2 (by exact List.Pairwise.nil) (by simp) (by simp) (fun r hr hm => hall r hr (List.mem_cons_of_mem _ hm))]
      simp
    | cons r R =>
      have hR' := (List.pairwise_cons.1 (show ((headP r) :: R.map headP).Pairwise (· < ·) from hR))
      by_cases hrs : headP r = s
      ·have hone : rowM N rules s = setIn N r.2 := by rw [← hrs]; exact rowM_one (up_nodup hr) (hsub r (List.mem_cons_self ..))
       rw [hone, List.flatMap_cons]
       have hrest := ih R hM'.2 hR'.2 (fun q hq => by
        have h1 := hin q (List.mem_cons_of_mem _ hq)
        rcases List.mem_cons.1 h1 with h1 | h1
        ·have h2 := hR'.1 (headP q) (List.mem_map.2 ⟨q, hq, rfl⟩)
         rw [h1, hrs] at h2
         exact absurd h2 (slt_irrefl _)
        ·exact h1) (fun q hq => hsub q (List.mem_cons_of_mem _ hq)) (fun q hq hm => by
        have h1 := hall q hq (List.mem_cons_of_mem _ hm)
        rcases List.mem_cons.1 h1 with h1 | h1
        ·subst h1
         rw [hrs] at hm
         exact absurd (hM'.1 s hm) (slt_irrefl _)
        ·exact h1)
       rw [hrest]
       unfold edgesRule
       rw [hrs]
      ·have hno : ∀ x ∈ rules, headP x ≠ s := fun x hx e => by
        have h1 := hall x hx (by rw [e]; exact List.mem_cons_self ..)
        rcases List.mem_cons.1 h1 with h1 | h1
        ·exact hrs (by rw [← h1]; exact e)
        ·have h2 := hR'.1 (headP x) (List.mem_map.2 ⟨x, h1, rfl⟩)
         rw [e] at h2
         have h3 := hin r (List.mem_cons_self ..)
         rcases List.mem_cons.1 h3 with h3 | h3
         ·exact hrs h3
         ·exact absurd (slt_trans h2 (hM'.1 _ h3)) (slt_irrefl _)
       rw [rowM_none hno, nums_zero, List.map_nil, List.nil_append]
       exact ih (r :: R) hM'.2 hR (fun q hq => by
        rcases List.mem_cons.1 (hin q hq) with h1 | h1
        ·exact absurd h1 (hno q (hsub q hq))
        ·exact h1) hsub (fun q hq hm => hall q hq (List.mem_cons_of_mem _ hm))
 unfold edgesMk
 rw [key N rules hN hr hin (fun _ h => h) (fun _ h _ => h)]
 unfold edgesOf
 rw [show (rowsM N rules).length = N.length by unfold rowsM; simp]
 have e : ∀ M : List KeyT, ∀ k, (∀ (j : Nat) (s : KeyT), M[j]? = some s → N[k + j]? = some s) → (M.flatMap fun s => (nums (rowM N rules s)).map fun d => (placeMax N s, ((d : Nat) : Int))) = ((List.range M.length).map (k + ·)).flatMap (edgesAt (rowsM N rules)) := by
  intro M
  induction M with
  | nil => intro k _; rfl
  | cons s M ih =>
    intro k h
    have h0 := h 0 s rfl
    rw [Nat.add_zero] at h0
    rw [List.flatMap_cons, ih (k + 1) (fun j t hj => by have := h (j + 1) t hj; rw [show k + 1 + j = k + (j + 1) by omega]; exact this), List.length_cons, List.range_succ_eq_map, List.map_cons, List.flatMap_cons, List.map_map]
    congr 1
    ·unfold edgesAt
     rw [show k + 0 = k from rfl]
     have hrow : rowAt (rowsM N rules) k = rowM N rules s := by
      unfold rowAt rowsM
      rw [List.getElem?_map, h0]
      rfl
     rw [hrow, placeMax_in hN (List.mem_of_getElem? h0) h0]
    ·congr 1
     apply List.map_congr_left
     intro j _
     show k + 1 + j = k + (j + 1)
     omega
 have := e N 0 (fun j s h => by rw [Nat.zero_add]; exact h)
 rw [this]
 congr 1
 simp
noncomputable def gmN (pho : List KeyT) (rules : List RuleT) : List KeyT := rising (pho ++ askedP rules)
theorem fill_up (l : List SufT) (all : List RuleT) (known : List KeyT) : Up ((fillP l all known).map headP) := by
 unfold fillP
 rw [List.map_map]
 show Up (((rising (askedP all)).filter (isF l all known)).map fun s => s)
 rw [List.map_id']
 exact filter_up (rising_up _) _
theorem fillR_up (r : List RuleT) (l : List SufT) (there : List KeyT) : Up ((fillR r l there).map headP) := by
 unfold fillR
 split
 ·exact fill_up _ _ _
 ·exact List.Pairwise.nil
structure FillFacts (rules : List RuleT) : Prop where
 up : Up (rules.map headP)
 tgt : ∀ r ∈ rules, r.1.length = 1
 many : ∀ r ∈ rules, r.2.length ≤ 64
 good : ∀ r ∈ rules, ∀ s ∈ r.1 ++ r.2, goodName s = true
theorem fillR_facts {r : List RuleT} {l : List SufT} {there : List KeyT} (h : fillE r l there = 0) : FillFacts (fillR r l there) := by
 have hj : joinE r = 0 := by
  by_cases hj : joinE r = 0
  ·exact hj
  ·rw [fillE_join hj] at h; exact absurd h hj
 have hi : infE l = 0 := by
  by_cases hi : infE l = 0
  ·exact hi
  ·rw [fillE_inf hj hi] at h; exact absurd h hi
 have ht : there.all goodName = true := by
  cases ht : there.all goodName with
  | true => rfl
  | false => rw [fillE_name hj hi ht] at h; cases h
 have hJ := joinR_facts hj
 have hK : ∀ s ∈ saidP (joinR r) there, goodName s = true := fun s hs => by
  unfold saidP at hs
  rw [mem_rising] at hs
  exact List.all_eq_true.1 (hJ.said_good ht) s hs
 refine ⟨fillR_up _ _ _, ?_, ?_, ?_⟩
 ·intro q hq
  rw [fillR_ok h] at hq
  obtain ⟨s, _, rfl⟩ := List.mem_map.1 hq
  rfl
 ·intro q hq
  rw [fillR_ok h] at hq
  obtain ⟨s, _, rfl⟩ := List.mem_map.1 hq
  exact needF_len hJ s
 ·intro q hq t ht
  rw [fillR_ok h] at hq
  obtain ⟨s, hs, rfl⟩ := List.mem_map.1 hq
  rcases List.mem_append.1 ht with ht | ht
  ·rw [List.mem_singleton] at ht
   subst ht
   have := (List.mem_filter.1 hs).1
   rw [mem_rising] at this
   exact hJ.asked_good _ this
  ·exact needF_good hJ hK s t ht
theorem fill_len {r : List RuleT} {l : List SufT} {there : List KeyT} (h : fillE r l there = 0) : (fillR r l there).length ≤ 4160 := by
 have hj : joinE r = 0 := by
  by_cases hj : joinE r = 0
  ·exact hj
  ·rw [fillE_join hj] at h; exact absurd h hj
 have hJ := joinR_facts hj
 rw [fillR_ok h]
 unfold fillP
 rw [List.length_map]
 refine Nat.le_trans (List.length_filter_le _ _) ?_
 rw [← compact_sorted]
 refine Nat.le_trans (Lib.compact_length_le _) ?_
 simp only [List.length_mergeSort]
 exact askedP_len hJ.len hJ.sum
end Go.Proofs.YtoandhhkmkgmaaaGreatDoor
namespace Go.Proofs.YtoandhhkmkgmaaaGreatDoor
open Go.RowKit

set_option maxRecDepth 100000 in
set_option maxHeartbeats 1000000 in
theorem gSet_any {A B : Option Addr} {n c m d : Nat} (N l : List KeyT) (w : World) (hr : Rd w A (N.map sv)) (hn : N.length = n) (hn64 : n ≤ 64) (hu : Up N) (hl : Rd w B (l.map sv)) (hm : l.length = m) (hb : m ≤ 9223372036854775807) :
 Calls Tryz.prog 74 #[.slice A n c, .slice B m d] w fun e w' => e = .returned (.int .u64 (setIn N l : Nat)) ∧ w = w' := by
 have HF := Lib.hid (fun x => nmFind_any (c := c) N x w hr hn (by omega) hu)
 have HL := Lib.hid hl
 have HM := Lib.hid hm
 have HNL := Lib.hid hn
 have HU := Lib.hid hu
 have HB := Lib.hid (fun k => setIn_b64 (N := N) (l.take k) (by omega))
 clear hr hl hm hn hu
 go_enter Tryz.func74, Tryz.ntmps74
 go_wp2_with fail
 go_loop [5, 7, 8, 9, 12] (fun v _ _ _ i => ∃ q : Nat, q ≤ m ∧ i = .int .i64 (q : Int) ∧ v = .int .u64 (setIn N (l.take q) : Nat)) (fun _ _ _ _ i => m - (intOf i).toNat)
 case atStart => exact ⟨0, by omega, rfl, by rw [List.take_zero, setIn_none]; rfl⟩
 case round =>
  obtain ⟨q, hq, rfl, rfl⟩ := hrel
  by_cases hlt : q < m
  ·obtain ⟨x, hx⟩ : ∃ x, l[q]? = some x := ⟨_, List.getElem?_eq_getElem (by rw [HM.out]; exact hlt)⟩
   obtain ⟨b, off, rfl, y1⟩ := HL.out.scell hx
   have HC := Lib.hid (HF.out x)
   have HTK : Hid (l.take (q + 1) = l.take q ++ [x]) := Lib.hid (take_snocS hx)
   have hq2 : (q : Int) < (m : Int) := by omega
   have HS64 := Lib.hid (HB.out q)
   unfold sv at HC
   generalize (⟨x.toArray⟩ : ByteArray) = bx at *
   clear hx
   by_cases hin : x ∈ N
   ·obtain ⟨k, hk⟩ := List.mem_iff_getElem?.1 hin
    have hP := placeMax_in HU.out hin hk
    have hT : hasS N x = true := by unfold hasS; simp [hin]
    have hk64 : k < 64 := by have := (List.getElem?_eq_some_iff.1 hk).1; have := HNL.out; omega
    have HST : Hid (setIn N (l.take (q + 1)) = addN (setIn N (l.take q)) k) := Lib.hid (by rw [HTK.out]; exact setIn_add HU.out hk)
    rw [hP, hT] at HC
    clear hP hT hk hin
    generalize setIn N (l.take q) = o at *
    go_wp2_with fail
    refine HC.out.mono ?_
    rintro e w' ⟨rfl, rfl⟩
    go_wp2_with fail
    go_round
    case rel => exact ⟨q + 1, by omega, by go_num, by rw [HST.out, or_raw o k HS64.out hk64]⟩
    case measure => simp [intOf]; omega
   ·have hT : hasS N x = false := by unfold hasS; simp [hin]
    have HST : Hid (setIn N (l.take (q + 1)) = setIn N (l.take q)) := Lib.hid (by rw [HTK.out]; exact setIn_skip hin)
    rw [hT] at HC
    clear hT hin
    go_wp2_with fail
    refine HC.out.mono ?_
    rintro e w' ⟨rfl, rfl⟩
    go_wp2_with fail
    go_round
    case rel => exact ⟨q + 1, by omega, by go_num, by rw [HST.out]⟩
    case measure => simp [intOf]; omega
  ·obtain rfl : q = m := by omega
   have HE : Hid (setIn N (l.take q) = setIn N l) := Lib.hid (by rw [List.take_of_length_le (by rw [HM.out]; exact Nat.le_refl _)])
   go_wp2_with fail
   go_ret
   exact ⟨by rw [← HE.out]; rfl, rfl⟩
end Go.Proofs.YtoandhhkmkgmaaaGreatDoor

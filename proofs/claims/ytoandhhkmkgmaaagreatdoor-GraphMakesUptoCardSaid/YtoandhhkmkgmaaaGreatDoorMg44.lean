/- Contracts that the law's proof leans on, and plain lemmas to them, merged. No condition beyond each contract's own hypotheses. -/
import Derived.Test.YtoandhhkmkgmaaaGreatDoorMg42
import Derived.Test.YtoandhhkmkgmaaaGreatDoorMg31
import Derived.Test.YtoandhhkmkgmaaaGreatDoorMg43
import Derived.Test.YtoandhhkmkgmaaaGreatDoorMg41
namespace Go.Proofs.YtoandhhkmkgmaaaGreatDoor
open Go.RowKit

theorem addAllO_each {P : KeyT → Prop} : ∀ (ns o : List KeyT), (∀ x ∈ o, P x) → (∀ x ∈ ns, P x) → ∀ x ∈ addAllO o ns, P x := addAll_each
theorem parseR_good (s : List UInt8) : ∀ x ∈ (parseR s).2.2, goodName x = true := by
 unfold parseR
 split
 ·split
  ·rename_i h0
   exact fun x hx => List.all_eq_true.1 (rlE_ok h0).2.2.2.2.1 x hx
  ·intro x hx; cases hx
 ·intro x hx; cases hx
theorem parseFrom_pho (M : List MacT) : ∀ (l : List (List UInt8)) (i : Nat) (f : FileT), (∀ x ∈ f.pho, goodName x = true) → f.pho.length ≤ 20 → (∀ x ∈ (parseFrom M i f l).2.2.pho, goodName x = true) ∧ (parseFrom M i f l).2.2.pho.length ≤ 20 := by
 intro l
 induction l with
 | nil => intro i f h h2; unfold parseFrom; exact ⟨h, h2⟩
 | cons s l ih =>
   intro i f h h2
   have hz : (∀ x ∈ emptyF.pho, goodName x = true) ∧ emptyF.pho.length ≤ 20 := ⟨fun x hx => (by cases hx), by decide⟩
   unfold parseFrom
   split
   ·exact ih _ _ h h2
   ·split
    ·exact hz
    ·split
     ·exact hz
     ·have hg := parseR_good (expT M s)
      split
      ·exact hz
      ·rename_i ha
       have ha0 : (addP f (parseR (expT M s)).2).1 = 0 := Decidable.byContradiction ha
       generalize (parseR (expT M s)).2 = r at *
       refine ih _ _ ?_ ?_
       ·unfold addP
        split
        ·split
         ·exact h
         ·exact addAllO_each r.2 f.pho h hg
        ·split
         ·split
          ·split
           ·exact h
           ·exact h
          ·exact h
         ·exact h
       ·unfold addP at ha0 ⊢
        split
        ·rename_i hph
         rw [if_pos hph] at ha0
         split
         ·exact h2
         ·rename_i h1
          rw [if_neg h1] at ha0
          simp only at ha0 ⊢
          split at ha0
          ·cases ha0
          ·omega
        ·split
         ·split
          ·split
           ·exact h2
           ·exact h2
          ·exact h2
         ·exact h2
theorem fileP_pho (l : List (List UInt8)) : (∀ x ∈ (fileP l).2.2.pho, goodName x = true) ∧ (fileP l).2.2.pho.length ≤ 20 := by
 have hz : (∀ x ∈ emptyF.pho, goodName x = true) ∧ emptyF.pho.length ≤ 20 := ⟨fun x hx => (by cases hx), by decide⟩
 unfold fileP
 split
 ·exact hz
 ·split
  ·exact hz
  ·exact parseFrom_pho _ _ _ _ (fun x hx => by cases hx) (by show 0 ≤ 20; omega)
theorem chkF_pho {f : FileT} (h : chkF f = 0) : (∀ x ∈ f.pho, goodName x = true) ∧ f.pho.length ≤ 20 := by
 unfold chkF at h
 split at h
 ·cases h
 ·rename_i hn
  have he : eqF f (fileP (linesP f)).2.2 = true := by
   cases hq : eqF f (fileP (linesP f)).2.2 with
   | true => rfl
   | false => exact absurd ⟨h, hq⟩ hn
  unfold eqF eqL at he
  simp only [Bool.and_eq_true, decide_eq_true_eq] at he
  rw [he.1.1.2]
  exact fileP_pho _
noncomputable def mkRules (f : FileT) (there : List KeyT) : List RuleT := fillR f.rul f.inf there
noncomputable def mkE (f : FileT) (there : List KeyT) : Nat := if chkF f ≠ 0 then chkF f else if fillE f.rul f.inf there ≠ 0 then fillE f.rul f.inf there else if 64 < (gmN f.pho (mkRules f there)).length then 2 else 0
noncomputable def mkN (f : FileT) (there : List KeyT) : List KeyT := if mkE f there = 0 then gmN f.pho (mkRules f there) else []
noncomputable def mkEd (f : FileT) (there : List KeyT) : List EdgeT := if mkE f there = 0 then edgesMk (gmN f.pho (mkRules f there)) (mkRules f there) else []
noncomputable def mkP (f : FileT) (there : List KeyT) : Nat := if mkE f there = 0 then setIn (gmN f.pho (mkRules f there)) f.pho else 0
noncomputable def mkM (f : FileT) (there : List KeyT) : Nat := if mkE f there = 0 then setIn (gmN f.pho (mkRules f there)) ((mkRules f there).map headP) else 0
def GmPost (f : FileT) (there : List KeyT) (w : World) (e : Ending) (w' : World) : Prop := GPost (mkE f there : Nat) (mkN f there) (mkEd f there) (mkP f there) (mkM f there) w e w'
theorem gmPost_no {f : FileT} {there : List KeyT} {w w' : World} {e : Ending} {v : Int} (h : mkE f there ≠ 0) (hv : v = (mkE f there : Nat)) (he : e = .returned (.tuple #[.agg #[.slice none 0 0, .slice none 0 0, .int .u64 0, .int .u64 0], .int .i64 v])) (hb : Below w.heap.size w w') : GmPost f there w e w' := by
 unfold GmPost mkN mkEd mkP mkM
 rw [if_neg h, if_neg h, if_neg h, if_neg h]
 exact gPost_no (by rw [he, hv]) hb
theorem mkE_chk {f : FileT} {there : List KeyT} (h : chkF f ≠ 0) : mkE f there = chkF f := if_pos h
theorem mkE_fill {f : FileT} {there : List KeyT} (h : chkF f = 0) (h2 : fillE f.rul f.inf there ≠ 0) : mkE f there = fillE f.rul f.inf there := by unfold mkE; rw [if_neg (by rw [h]; simp), if_pos h2]
theorem mkE_wide {f : FileT} {there : List KeyT} (h : chkF f = 0) (h2 : fillE f.rul f.inf there = 0) (h3 : 64 < (gmN f.pho (mkRules f there)).length) : mkE f there = 2 := by unfold mkE; rw [if_neg (by rw [h]; simp), if_neg (by rw [h2]; simp), if_pos h3]
theorem mkE_ok {f : FileT} {there : List KeyT} (h : chkF f = 0) (h2 : fillE f.rul f.inf there = 0) (h3 : ¬ 64 < (gmN f.pho (mkRules f there)).length) : mkE f there = 0 := by unfold mkE; rw [if_neg (by rw [h]; simp), if_neg (by rw [h2]; simp), if_neg h3]
theorem gm_all_good {p : List KeyT} {rules : List RuleT} (hp : ∀ x ∈ p, goodName x = true) (hr : FillFacts rules) : (p ++ askedP rules).all goodName = true := List.all_eq_true.2 fun s hs => by
 rcases List.mem_append.1 hs with hs | hs
 ·exact hp s hs
 ·obtain ⟨r, hr', hs⟩ := List.mem_flatMap.1 hs
  exact hr.good r hr' s hs
theorem FillFacts.sum {all : List RuleT} (h : FillFacts all) : ∀ r ∈ all, r.1.length + r.2.length ≤ 65 := fun r hr => by
 have := h.tgt r hr
 have := h.many r hr
 omega
theorem gm_heads {p : List KeyT} {rules : List RuleT} (hr : FillFacts rules) : ∀ r ∈ rules, headP r ∈ gmN p rules := fun r hr' => by
 unfold gmN
 rw [mem_rising]
 obtain ⟨t, ht⟩ : ∃ t, r.1 = [t] := List.length_eq_one_iff.1 (hr.tgt r hr')
 exact List.mem_append_right _ (List.mem_flatMap.2 ⟨r, hr', List.mem_append_left _ (by unfold headP; rw [ht]; exact List.mem_singleton_self _)⟩)
theorem edgesMk_take {N : List KeyT} {rules : List RuleT} {k : Nat} {r : RuleT} (h : rules[k]? = some r) : edgesMk N (rules.take (k + 1)) = edgesMk N (rules.take k) ++ edgesRule N r := by
 unfold edgesMk
 rw [take_snocS h, List.flatMap_append]
 simp
theorem edgesRule_len (N : List KeyT) (r : RuleT) : (edgesRule N r).length = (nums (setIn N r.2)).length := by unfold edgesRule; rw [List.length_map]
theorem edgesMk_len (N : List KeyT) (rules : List RuleT) : ∀ k, (edgesMk N (rules.take k)).length ≤ k * 64
 | 0 => by simp [edgesMk]
 | k + 1 => by
   have ih := edgesMk_len N rules k
   by_cases hk : k < rules.length
   ·rw [edgesMk_take (List.getElem?_eq_getElem hk), List.length_append, edgesRule_len]
    have := nums_len (setIn N rules[k].2)
    omega
   ·rw [List.take_of_length_le (by omega)] at ih ⊢
    omega
theorem edgesRule_take {N : List KeyT} {r : RuleT} {t x : Nat} (h : (nums (setIn N r.2))[t]? = some x) : (edgesRule N r).take (t + 1) = (edgesRule N r).take t ++ [(placeMax N (headP r), (x : Int))] := by
 have hh : (edgesRule N r)[t]? = some (placeMax N (headP r), (x : Int)) := by unfold edgesRule; rw [List.getElem?_map, h]; rfl
 exact take_snocS hh
theorem heads_take {rules : List RuleT} {k : Nat} {r : RuleT} (h : rules[k]? = some r) : (rules.take (k + 1)).map headP = (rules.take k).map headP ++ [headP r] := by rw [take_snocS h]; simp
theorem head_one {r : RuleT} {t : KeyT} (h : r.1 = [t]) : headP r = t := by unfold headP; rw [h]; rfl
end Go.Proofs.YtoandhhkmkgmaaaGreatDoor
namespace Go.Proofs.YtoandhhkmkgmaaaGreatDoor
open Go.RowKit

theorem rowM_nil (N : List KeyT) (s : KeyT) : rowM N [] s = 0 := rowM_none (fun _ h => by cases h)
theorem rowM_skip {N : List KeyT} {l : List RuleT} {x : RuleT} {s : KeyT} (h : headP x ≠ s) : rowM N (l ++ [x]) s = rowM N l s := by
 apply set_ext
 intro j
 rw [rowM_bit, rowM_bit, List.any_append]
 simp [h]
theorem rowM_hit {N : List KeyT} {l : List RuleT} {x : RuleT} {s : KeyT} (h : headP x = s) : rowM N (l ++ [x]) s = rowM N l s ||| setIn N x.2 := by
 apply set_ext
 intro j
 rw [Nat.testBit_or, rowM_bit, rowM_bit, setIn_bit, List.any_append]
 generalize N.getD j [] = y
 cases decide (j < N.length) <;> simp [h]
theorem or_in_snoc {N l : List KeyT} (hu : Up N) {R k : Nat} {x : KeyT} (hk : N[k]? = some x) : R ||| setIn N (l ++ [x]) = addN (R ||| setIn N l) k := by
 rw [setIn_add hu hk]
 unfold addN
 rw [Nat.or_assoc]
theorem rowM_b64 {N : List KeyT} (rules : List RuleT) (s : KeyT) (h : N.length ≤ 64) : B64 (rowM N rules s) := setP_b64 _ h
def rowsT (N : List KeyT) (rules : List RuleT) (z : Nat) : List Nat := (List.range N.length).map fun i => if i < z then rowM N rules (N.getD i []) else 0
theorem rowsT_len (N : List KeyT) (rules : List RuleT) (z : Nat) : (rowsT N rules z).length = N.length := by unfold rowsT; simp
theorem rowsT_at {N : List KeyT} {rules : List RuleT} {z i : Nat} (h : i < N.length) : (rowsT N rules z)[i]? = some (if i < z then rowM N rules (N.getD i []) else 0) := by
 unfold rowsT
 rw [List.getElem?_map, List.getElem?_range h]
 rfl
theorem rowsT_zero (N : List KeyT) (rules : List RuleT) : rowsT N rules 0 = List.replicate N.length 0 := by
 unfold rowsT
 apply List.ext_getElem?
 intro i
 by_cases h : i < N.length
 ·rw [List.getElem?_map, List.getElem?_range h, List.getElem?_replicate, if_pos h]; simp
 ·rw [List.getElem?_eq_none (by simp; omega), List.getElem?_eq_none (by simp; omega)]
theorem rowsT_same {N : List KeyT} {rules : List RuleT} {z : Nat} (h : z < N.length) : (rowsT N rules z).set z 0 = rowsT N rules z := by
 apply List.ext_getElem?
 intro i
 by_cases hi : z = i
 ·subst hi
  rw [List.getElem?_set_self (by rw [rowsT_len]; exact h), rowsT_at h, if_neg (Nat.lt_irrefl _)]
 ·rw [List.getElem?_set_ne hi]
theorem rowsT_succ {N : List KeyT} {rules : List RuleT} {z : Nat} {s : KeyT} (h : N[z]? = some s) : (rowsT N rules z).set z (rowM N rules s) = rowsT N rules (z + 1) := by
 have hlt := (List.getElem?_eq_some_iff.1 h).1
 have hs : N.getD z [] = s := by rw [List.getD_eq_getElem?_getD, h]; rfl
 apply List.ext_getElem?
 intro i
 by_cases hi : z = i
 ·subst hi
  rw [List.getElem?_set_self (by rw [rowsT_len]; exact hlt), rowsT_at hlt, if_pos (Nat.lt_succ_self _), hs]
 ·rw [List.getElem?_set_ne hi]
  by_cases hil : i < N.length
  ·rw [rowsT_at hil, rowsT_at hil]
   by_cases hiz : i < z
   ·rw [if_pos hiz, if_pos (by omega)]
   ·rw [if_neg hiz, if_neg (by omega)]
  ·rw [List.getElem?_eq_none (by rw [rowsT_len]; omega), List.getElem?_eq_none (by rw [rowsT_len]; omega)]
theorem rowsT_end (N : List KeyT) (rules : List RuleT) : rowsT N rules N.length = rowsM N rules := by
 unfold rowsM
 apply List.ext_getElem?
 intro i
 by_cases h : i < N.length
 ·rw [rowsT_at h, if_pos h, List.getElem?_map, getD_at h]
  rfl
 ·rw [List.getElem?_eq_none (by rw [rowsT_len]; omega), List.getElem?_eq_none (by simp; omega)]
theorem rowsM_b64 {N : List KeyT} (rules : List RuleT) (h : N.length ≤ 64) : Rows64 (rowsM N rules) := fun i => by
 unfold rowAt rowsM
 rw [List.getElem?_map]
 cases N[i]? with
 | none => exact B64.zero
 | some s => exact rowM_b64 rules s h
def hdIn (rules : List RuleT) (s : KeyT) : Bool := rules.any fun x => decide (headP x = s)
theorem hdIn_snoc (l : List RuleT) (x : RuleT) (s : KeyT) : hdIn (l ++ [x]) s = (hdIn l s || decide (headP x = s)) := by unfold hdIn; rw [List.any_append]; simp
theorem hdIn_heads (rules : List RuleT) (s : KeyT) : inL (rules.map headP) s = hdIn rules s := by
 unfold inL hdIn
 rw [Bool.eq_iff_iff, decide_eq_true_iff, List.mem_map, List.any_eq_true]
 simp
theorem made_eq (N : List KeyT) (rules : List RuleT) : setP N.length (fun i => hdIn rules (N.getD i [])) = setIn N (rules.map headP) := by
 unfold setIn
 congr 1
 funext i
 rw [hdIn_heads]
def madeY (M0 z : Nat) (b : Bool) : Nat := if b then addN M0 z else M0
theorem madeY_b64 {M0 z : Nat} (h : B64 M0) (hz : z < 64) (b : Bool) : B64 (madeY M0 z b) := by
 unfold madeY
 split
 ·exact addN_b64 h hz
 ·exact h
theorem madeY_hit (M0 z : Nat) (b : Bool) : addN (madeY M0 z b) z = addN M0 z := by
 unfold madeY
 split
 ·unfold addN; rw [Nat.or_assoc, Nat.or_self]
 ·rfl
theorem gm_needs {p : List KeyT} {rules : List RuleT} : ∀ r ∈ rules, ∀ x ∈ r.2, x ∈ gmN p rules := fun r hr x hx => by
 unfold gmN
 rw [mem_rising]
 exact List.mem_append_right _ (List.mem_flatMap.2 ⟨r, hr, List.mem_append_right _ hx⟩)
end Go.Proofs.YtoandhhkmkgmaaaGreatDoor

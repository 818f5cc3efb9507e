/- The round of the reference's ruled, and its loop, over what is known of each guard. -/
import Derived.Test.YtcodncddaemhlaaDoorNormR1
import Derived.Test.YtcodncddaemhlaaDoorNormK2
import Derived.Test.YtcodncddaemhlaaDoorNormK4
import Derived.Test.YtcodncddaemhlaaDoorNormK5
import Derived.IntWalk
import Derived.Test.YtcodncddaemhlaaDoorNormM
namespace Go.Proofs.YtcodncddaemhlaaDoor
open Go.RowKit

set_option maxRecDepth 100000 in
set_option maxHeartbeats 4000000 in
theorem rd5 (cd : Code) (hc : rgR 5 = some cd) (v0 v4 v5 v6 v8 v9 : Value) (B : Nat) (j : Int) (u : Nat → Value) (w : World)  (K : Act → World → Prop) (Q : Exit → Act → World → Prop)
    (hQ : ∀ u' : Nat → Value, u' 21 = .bool (decide (j ≤ 9)) → K (FA v0 B false v4 v5 v6 j v8 v9 u') w) : cd.wp Tryd.prog (Exit.then K Q) (FA v0 B false v4 v5 v6 j v8 v9 u) w := by
  simp [rgR, rg, Tryd.f18] at hc
  subst hc
  unfold FA frL
  have HQ := Lib.hid hQ
  clear hQ
  go_wp2_with fail
  exact fr_end (K := K) rfl 11 rfl HQ.out
set_option maxRecDepth 100000 in
set_option maxHeartbeats 4000000 in
theorem rd6 (cd : Code) (hc : rgR 6 = some cd) (v0 v4 v5 v6 v8 v9 : Value) (B : Nat) (j : Int) (u : Nat → Value) (w : World) (h0 : 1 ≤ j) (h1 : j ≤ 9)  (K : Act → World → Prop) (Q : Exit → Act → World → Prop)
    (hQ : ∀ u' : Nat → Value, K (FA v0 B false v4 v5 v6 (j + 1) v8 v9 u') w) : cd.wp Tryd.prog (Exit.then K Q) (FA v0 B false v4 v5 v6 j v8 v9 u) w := by
  simp [rgR, rg, Tryd.f18] at hc
  subst hc
  unfold FA frL
  have HQ := Lib.hid hQ
  clear hQ
  go_wp2_with fail
  exact fr_any (K := K) rfl HQ.out
set_option maxRecDepth 100000 in
set_option maxHeartbeats 4000000 in
theorem rd7 (cd : Code) (hc : rgR 7 = some cd) (v0 v4 v5 v6 v8 v9 : Value) (B : Nat) (j k : Int) (u : Nat → Value) (w : World) (y1 : w.cell? ⟨B, 0, none⟩ = some (.int .i64 k))  (K : Act → World → Prop) (Q : Exit → Act → World → Prop)
    (hQ : ∀ u' : Nat → Value, K (FA v0 B false v4 v5 v6 j (.bool ((k == 5) || (k == 6))) v9 u') w) : cd.wp Tryd.prog (Exit.then K Q) (FA v0 B false v4 v5 v6 j v8 v9 u) w := by
  simp [rgR, rg, Tryd.f18] at hc
  subst hc
  unfold FA frL
  have HQ := Lib.hid hQ
  clear hQ
  by_cases h5 : k = 5
  · subst h5
    go_wp2_with fail
    exact fr_any (K := K) rfl HQ.out
  have e5 : (k == 5) = false := by simp [h5]
  have d5 : decide (k = 5) = false := decide_eq_false h5
  rw [e5] at HQ
  clear h5
  by_cases h6 : k = 6
  · subst h6
    go_wp2_with fail
    exact fr_any (K := K) rfl HQ.out
  have e6 : (k == 6) = false := by simp [h6]
  have d6 : decide (k = 6) = false := decide_eq_false h6
  rw [e6] at HQ
  clear h6
  go_wp2_with fail
  exact fr_any (K := K) rfl HQ.out
set_option maxRecDepth 100000 in
set_option maxHeartbeats 4000000 in
theorem rd8 (cd : Code) (hc : rgR 8 = some cd) (v0 v5 v6 v8 v9 : Value) (B : Nat) (j wv : Int) (u : Nat → Value) (w : World)  (K : Act → World → Prop) (Q : Exit → Act → World → Prop)
    (hQ : ∀ u' : Nat → Value, K (FA v0 B false (.int .i64 wv) v5 v6 j v8 (.bool (decide (0 < wv))) u') w) : cd.wp Tryd.prog (Exit.then K Q) (FA v0 B false (.int .i64 wv) v5 v6 j v8 v9 u) w := by
  simp [rgR, rg, Tryd.f18] at hc
  subst hc
  unfold FA frL
  have HQ := Lib.hid hQ
  clear hQ
  go_wp2_with fail
  exact fr_any (K := K) rfl HQ.out
/-- The sequence whose first part is the region of this number. -/
def sq : Code → Nat → Option Code
  | .seq (.region i ops d) b, n => if i = n then some (.seq (.region i ops d) b) else sq b n
  | .seq a b, n => (sq a n).orElse fun _ => sq b n
  | .cond _ a b, n => (sq a n).orElse fun _ => sq b n
  | .block _ a, n => sq a n
  | .loop a, n => sq a n
  | _, _ => none
noncomputable def sqR (n : Nat) : Option Code := Tryd.f18.body.bind fun b => sq b n
def firstLoop : Code → Option Code
  | .loop c => some c
  | .seq a b => match firstLoop a with
    | some c => some c
    | none => firstLoop b
  | .block _ c => firstLoop c
  | .cond _ a b => match firstLoop a with
    | some c => some c
    | none => firstLoop b
  | _ => none
noncomputable def roundC : Code := ((Tryd.f18.body.bind firstLoop).getD .skip)
theorem of_some {α : Type} {o : Option α} (h : o.isSome = true) : ∃ a, o = some a := Option.isSome_iff_exists.1 h
theorem rs9 : (rgR 9).isSome = true := by kernel_rfl
theorem rs10 : (rgR 10).isSome = true := by kernel_rfl
theorem rs11 : (rgR 11).isSome = true := by kernel_rfl
theorem rs12 : (rgR 12).isSome = true := by kernel_rfl
theorem rs13 : (rgR 13).isSome = true := by kernel_rfl
theorem rs14 : (rgR 14).isSome = true := by kernel_rfl
theorem rs15 : (rgR 15).isSome = true := by kernel_rfl
theorem rs16 : (rgR 16).isSome = true := by kernel_rfl
theorem rs17 : (rgR 17).isSome = true := by kernel_rfl
theorem rs18 : (rgR 18).isSome = true := by kernel_rfl
theorem rs19 : (rgR 19).isSome = true := by kernel_rfl
theorem rs20 : (rgR 20).isSome = true := by kernel_rfl
theorem rs21 : (rgR 21).isSome = true := by kernel_rfl
theorem rs22 : (rgR 22).isSome = true := by kernel_rfl
theorem rs23 : (rgR 23).isSome = true := by kernel_rfl
theorem rs24 : (rgR 24).isSome = true := by kernel_rfl
theorem rs25 : (rgR 25).isSome = true := by kernel_rfl
theorem rs26 : (rgR 26).isSome = true := by kernel_rfl
theorem rs27 : (rgR 27).isSome = true := by kernel_rfl
theorem rs28 : (rgR 28).isSome = true := by kernel_rfl
theorem rs29 : (rgR 29).isSome = true := by kernel_rfl
theorem rs30 : (rgR 30).isSome = true := by kernel_rfl
theorem rs31 : (rgR 31).isSome = true := by kernel_rfl
theorem rs32 : (rgR 32).isSome = true := by kernel_rfl
theorem rs5 : (rgR 5).isSome = true := by kernel_rfl
theorem rs6 : (rgR 6).isSome = true := by kernel_rfl
theorem rs7 : (rgR 7).isSome = true := by kernel_rfl
theorem rs8 : (rgR 8).isSome = true := by kernel_rfl
theorem sq9 : sqR 9 = (rgR 9).bind fun a => (rgR 10).bind fun b => (sqR 11).bind fun c => some (.seq a (.cond (.tmp 34) (.seq b .ret) c)) := by kernel_rfl
theorem sq11 : sqR 11 = (rgR 11).bind fun a => (rgR 12).bind fun b => (sqR 13).bind fun c => some (.seq a (.cond (.tmp 55) (.seq b .ret) c)) := by kernel_rfl
theorem sq13 : sqR 13 = (rgR 13).bind fun a => (rgR 14).bind fun b => (sqR 15).bind fun c => some (.seq a (.cond (.tmp 78) (.seq b .ret) c)) := by kernel_rfl
theorem sq15 : sqR 15 = (rgR 15).bind fun a => (rgR 16).bind fun b => (sqR 17).bind fun c => some (.seq a (.cond (.tmp 100) (.seq b .ret) c)) := by kernel_rfl
theorem sq17 : sqR 17 = (rgR 17).bind fun a => (rgR 18).bind fun b => (sqR 19).bind fun c => some (.seq a (.cond (.tmp 122) (.seq b .ret) c)) := by kernel_rfl
theorem sq19 : sqR 19 = (rgR 19).bind fun a => (rgR 20).bind fun b => (sqR 21).bind fun c => some (.seq a (.cond (.tmp 153) (.seq b .ret) c)) := by kernel_rfl
theorem sq21 : sqR 21 = (rgR 21).bind fun a => (rgR 22).bind fun b => (sqR 23).bind fun c => some (.seq a (.cond (.tmp 174) (.seq b .ret) c)) := by kernel_rfl
theorem sq23 : sqR 23 = (rgR 23).bind fun a => (rgR 24).bind fun b => (sqR 25).bind fun c => some (.seq a (.cond (.tmp 189) (.seq b .ret) c)) := by kernel_rfl
theorem sq25 : sqR 25 = (rgR 25).bind fun a => (rgR 26).bind fun b => (sqR 27).bind fun c => some (.seq a (.cond (.tmp 226) (.seq b .ret) c)) := by kernel_rfl
theorem sq27 : sqR 27 = (rgR 27).bind fun a => (rgR 28).bind fun b => (sqR 29).bind fun c => some (.seq a (.cond (.tmp 251) (.seq b .ret) c)) := by kernel_rfl
theorem sq29 : sqR 29 = (rgR 29).bind fun a => (rgR 30).bind fun b => (sqR 31).bind fun c => some (.seq a (.cond (.tmp 298) (.seq b .ret) c)) := by kernel_rfl
theorem sq31 : sqR 31 = (rgR 31).bind fun a => (rgR 32).bind fun b => some (.seq a (.cond (.tmp 340) (.seq b .ret) .skip)) := by kernel_rfl
theorem round_eq : (some roundC : Option Code) = (rgR 5).bind fun a => (rgR 7).bind fun b => (rgR 8).bind fun c => (sqR 9).bind fun d => (rgR 6).bind fun e => some (.seq (.seq a (.cond (.tmp 21) .skip (.exit 0))) (.seq (.block 1 (.seq b (.seq c (.block 2 d)))) e)) := by kernel_rfl
/-- A guard answers b, and what holds of the world stays. -/
def GuardOk (r s : Nat) (F : (Nat → Value) → Act) (I : World → Prop) (b : Bool) : Prop := ∀ cd, rgR r = some cd → ∀ (u : Nat → Value) (w : World), I w → ∀ (K : Act → World → Prop) (Q : Exit → Act → World → Prop), (∀ (u' : Nat → Value) (w' : World), u' s = .bool b → I w' → K (F u') w') → cd.wp Tryd.prog (Exit.then K Q) (F u) w
/-- What a rule tells. -/
def ArmOk (r : Nat) (F : (Nat → Value) → Act) (I : World → Prop) (E : Act → World → Prop) : Prop := ∀ cd, rgR r = some cd → ∀ (u : Nat → Value) (w : World), I w → ∀ (K : Act → World → Prop) (Q : Exit → Act → World → Prop), (∀ a w', E a w' → K a w') → cd.wp Tryd.prog (Exit.then K Q) (F u) w
theorem chain_step {r s : Nat} {F : (Nat → Value) → Act} {I : World → Prop} {E : Act → World → Prop} {b : Bool} {cR cA cN : Code} {Q : Exit → Act → World → Prop} (hR : rgR r = some cR) (hA : rgR (r + 1) = some cA) (hs : ∀ u, (F u).eval (.tmp s) = u s) (hg : GuardOk r s F I b) (ha : b = true → ArmOk (r + 1) F I E) (hE : ∀ a w, E a w → Q .ret a w) (hn : b = false → ∀ u w, I w → cN.wp Tryd.prog Q (F u) w) :
    ∀ u w, I w → (Code.seq cR (.cond (.tmp s) (.seq cA .ret) cN)).wp Tryd.prog Q (F u) w := by
  intro u w hI
  refine wp_seq (hg cR hR u w hI _ _ fun u' w' h hI' => ?_)
  cases b with
  | true => exact wp_cond_true ((hs u').trans h) (wp_seq (ha rfl cA hA u' w' hI' _ _ fun a w2 hE2 => wp_ret (hE a w2 hE2)))
  | false => exact wp_cond_false ((hs u').trans h) (hn rfl u' w' hI')
set_option maxRecDepth 100000 in
theorem ev34 (v0 : Value) (B : Nat) (b3 : Bool) (v4 v5 v6 : Value) (j : Int) (v8 v9 : Value) (u : Nat → Value) : (FA v0 B b3 v4 v5 v6 j v8 v9 u).eval (.tmp 34) = u 34 := rfl
set_option maxRecDepth 100000 in
theorem ev55 (v0 : Value) (B : Nat) (b3 : Bool) (v4 v5 v6 : Value) (j : Int) (v8 v9 : Value) (u : Nat → Value) : (FA v0 B b3 v4 v5 v6 j v8 v9 u).eval (.tmp 55) = u 55 := rfl
set_option maxRecDepth 100000 in
theorem ev78 (v0 : Value) (B : Nat) (b3 : Bool) (v4 v5 v6 : Value) (j : Int) (v8 v9 : Value) (u : Nat → Value) : (FA v0 B b3 v4 v5 v6 j v8 v9 u).eval (.tmp 78) = u 78 := rfl
set_option maxRecDepth 100000 in
theorem ev100 (v0 : Value) (B : Nat) (b3 : Bool) (v4 v5 v6 : Value) (j : Int) (v8 v9 : Value) (u : Nat → Value) : (FA v0 B b3 v4 v5 v6 j v8 v9 u).eval (.tmp 100) = u 100 := rfl
set_option maxRecDepth 100000 in
theorem ev122 (v0 : Value) (B : Nat) (b3 : Bool) (v4 v5 v6 : Value) (j : Int) (v8 v9 : Value) (u : Nat → Value) : (FA v0 B b3 v4 v5 v6 j v8 v9 u).eval (.tmp 122) = u 122 := rfl
set_option maxRecDepth 100000 in
theorem ev153 (v0 : Value) (B : Nat) (b3 : Bool) (v4 v5 v6 : Value) (j : Int) (v8 v9 : Value) (u : Nat → Value) : (FA v0 B b3 v4 v5 v6 j v8 v9 u).eval (.tmp 153) = u 153 := rfl
set_option maxRecDepth 100000 in
theorem ev174 (v0 : Value) (B : Nat) (b3 : Bool) (v4 v5 v6 : Value) (j : Int) (v8 v9 : Value) (u : Nat → Value) : (FA v0 B b3 v4 v5 v6 j v8 v9 u).eval (.tmp 174) = u 174 := rfl
set_option maxRecDepth 100000 in
theorem ev189 (v0 : Value) (B : Nat) (b3 : Bool) (v4 v5 v6 : Value) (j : Int) (v8 v9 : Value) (u : Nat → Value) : (FA v0 B b3 v4 v5 v6 j v8 v9 u).eval (.tmp 189) = u 189 := rfl
set_option maxRecDepth 100000 in
theorem ev226 (v0 : Value) (B : Nat) (b3 : Bool) (v4 v5 v6 : Value) (j : Int) (v8 v9 : Value) (u : Nat → Value) : (FA v0 B b3 v4 v5 v6 j v8 v9 u).eval (.tmp 226) = u 226 := rfl
set_option maxRecDepth 100000 in
theorem ev251 (v0 : Value) (B : Nat) (b3 : Bool) (v4 v5 v6 : Value) (j : Int) (v8 v9 : Value) (u : Nat → Value) : (FA v0 B b3 v4 v5 v6 j v8 v9 u).eval (.tmp 251) = u 251 := rfl
set_option maxRecDepth 100000 in
theorem ev298 (v0 : Value) (B : Nat) (b3 : Bool) (v4 v5 v6 : Value) (j : Int) (v8 v9 : Value) (u : Nat → Value) : (FA v0 B b3 v4 v5 v6 j v8 v9 u).eval (.tmp 298) = u 298 := rfl
set_option maxRecDepth 100000 in
theorem ev340 (v0 : Value) (B : Nat) (b3 : Bool) (v4 v5 v6 : Value) (j : Int) (v8 v9 : Value) (u : Nat → Value) : (FA v0 B b3 v4 v5 v6 j v8 v9 u).eval (.tmp 340) = u 340 := rfl
set_option maxRecDepth 100000 in
theorem ev21 (v0 : Value) (B : Nat) (b3 : Bool) (v4 v5 v6 : Value) (j : Int) (v8 v9 : Value) (u : Nat → Value) : (FA v0 B b3 v4 v5 v6 j v8 v9 u).eval (.tmp 21) = u 21 := rfl
/-- All the guards of a round, one after the other. -/
theorem chain_all {v0 v4 v5 v6 v8 v9 : Value} {B : Nat} {j : Int} {I : World → Prop} {E : Act → World → Prop} {b9 b11 b13 b15 b17 b19 b21 b23 b25 b27 b29 b31 : Bool} {Q : Exit → Act → World → Prop} {cd : Code} (hcd : sqR 9 = some cd)
    (g9 : GuardOk 9 34 (FA v0 B false v4 v5 v6 j v8 v9) I b9)
    (g11 : GuardOk 11 55 (FA v0 B false v4 v5 v6 j v8 v9) I b11)
    (g13 : GuardOk 13 78 (FA v0 B false v4 v5 v6 j v8 v9) I b13)
    (g15 : GuardOk 15 100 (FA v0 B false v4 v5 v6 j v8 v9) I b15)
    (g17 : GuardOk 17 122 (FA v0 B false v4 v5 v6 j v8 v9) I b17)
    (g19 : GuardOk 19 153 (FA v0 B false v4 v5 v6 j v8 v9) I b19)
    (g21 : GuardOk 21 174 (FA v0 B false v4 v5 v6 j v8 v9) I b21)
    (g23 : GuardOk 23 189 (FA v0 B false v4 v5 v6 j v8 v9) I b23)
    (g25 : GuardOk 25 226 (FA v0 B false v4 v5 v6 j v8 v9) I b25)
    (g27 : GuardOk 27 251 (FA v0 B false v4 v5 v6 j v8 v9) I b27)
    (g29 : GuardOk 29 298 (FA v0 B false v4 v5 v6 j v8 v9) I b29)
    (g31 : GuardOk 31 340 (FA v0 B false v4 v5 v6 j v8 v9) I b31)
    (a9 : b9 = true → ArmOk 10 (FA v0 B false v4 v5 v6 j v8 v9) I E)
    (a11 : b9 = false → b11 = true → ArmOk 12 (FA v0 B false v4 v5 v6 j v8 v9) I E)
    (a13 : b9 = false → b11 = false → b13 = true → ArmOk 14 (FA v0 B false v4 v5 v6 j v8 v9) I E)
    (a15 : b9 = false → b11 = false → b13 = false → b15 = true → ArmOk 16 (FA v0 B false v4 v5 v6 j v8 v9) I E)
    (a17 : b9 = false → b11 = false → b13 = false → b15 = false → b17 = true → ArmOk 18 (FA v0 B false v4 v5 v6 j v8 v9) I E)
    (a19 : b9 = false → b11 = false → b13 = false → b15 = false → b17 = false → b19 = true → ArmOk 20 (FA v0 B false v4 v5 v6 j v8 v9) I E)
    (a21 : b9 = false → b11 = false → b13 = false → b15 = false → b17 = false → b19 = false → b21 = true → ArmOk 22 (FA v0 B false v4 v5 v6 j v8 v9) I E)
    (a23 : b9 = false → b11 = false → b13 = false → b15 = false → b17 = false → b19 = false → b21 = false → b23 = true → ArmOk 24 (FA v0 B false v4 v5 v6 j v8 v9) I E)
    (a25 : b9 = false → b11 = false → b13 = false → b15 = false → b17 = false → b19 = false → b21 = false → b23 = false → b25 = true → ArmOk 26 (FA v0 B false v4 v5 v6 j v8 v9) I E)
    (a27 : b9 = false → b11 = false → b13 = false → b15 = false → b17 = false → b19 = false → b21 = false → b23 = false → b25 = false → b27 = true → ArmOk 28 (FA v0 B false v4 v5 v6 j v8 v9) I E)
    (a29 : b9 = false → b11 = false → b13 = false → b15 = false → b17 = false → b19 = false → b21 = false → b23 = false → b25 = false → b27 = false → b29 = true → ArmOk 30 (FA v0 B false v4 v5 v6 j v8 v9) I E)
    (a31 : b9 = false → b11 = false → b13 = false → b15 = false → b17 = false → b19 = false → b21 = false → b23 = false → b25 = false → b27 = false → b29 = false → b31 = true → ArmOk 32 (FA v0 B false v4 v5 v6 j v8 v9) I E)
    (hE : ∀ a w, E a w → Q .ret a w) (hN : b9 = false → b11 = false → b13 = false → b15 = false → b17 = false → b19 = false → b21 = false → b23 = false → b25 = false → b27 = false → b29 = false → b31 = false → ∀ u w, I w → Q .normal (FA v0 B false v4 v5 v6 j v8 v9 u) w) :
    ∀ u w, I w → cd.wp Tryd.prog Q (FA v0 B false v4 v5 v6 j v8 v9 u) w := by
  obtain ⟨x9, hx9⟩ := of_some rs9
  obtain ⟨y9, hy9⟩ := of_some rs10
  obtain ⟨x11, hx11⟩ := of_some rs11
  obtain ⟨y11, hy11⟩ := of_some rs12
  obtain ⟨x13, hx13⟩ := of_some rs13
  obtain ⟨y13, hy13⟩ := of_some rs14
  obtain ⟨x15, hx15⟩ := of_some rs15
  obtain ⟨y15, hy15⟩ := of_some rs16
  obtain ⟨x17, hx17⟩ := of_some rs17
  obtain ⟨y17, hy17⟩ := of_some rs18
  obtain ⟨x19, hx19⟩ := of_some rs19
  obtain ⟨y19, hy19⟩ := of_some rs20
  obtain ⟨x21, hx21⟩ := of_some rs21
  obtain ⟨y21, hy21⟩ := of_some rs22
  obtain ⟨x23, hx23⟩ := of_some rs23
  obtain ⟨y23, hy23⟩ := of_some rs24
  obtain ⟨x25, hx25⟩ := of_some rs25
  obtain ⟨y25, hy25⟩ := of_some rs26
  obtain ⟨x27, hx27⟩ := of_some rs27
  obtain ⟨y27, hy27⟩ := of_some rs28
  obtain ⟨x29, hx29⟩ := of_some rs29
  obtain ⟨y29, hy29⟩ := of_some rs30
  obtain ⟨x31, hx31⟩ := of_some rs31
  obtain ⟨y31, hy31⟩ := of_some rs32
  have s31 := sq31
  rw [hx31, hy31] at s31
  replace s31 : sqR 31 = some _ := s31
  have s29 := sq29
  rw [hx29, hy29, s31] at s29
  replace s29 : sqR 29 = some _ := s29
  have s27 := sq27
  rw [hx27, hy27, s29] at s27
  replace s27 : sqR 27 = some _ := s27
  have s25 := sq25
  rw [hx25, hy25, s27] at s25
  replace s25 : sqR 25 = some _ := s25
  have s23 := sq23
  rw [hx23, hy23, s25] at s23
  replace s23 : sqR 23 = some _ := s23
  have s21 := sq21
  rw [hx21, hy21, s23] at s21
  replace s21 : sqR 21 = some _ := s21
  have s19 := sq19
  rw [hx19, hy19, s21] at s19
  replace s19 : sqR 19 = some _ := s19
  have s17 := sq17
  rw [hx17, hy17, s19] at s17
  replace s17 : sqR 17 = some _ := s17
  have s15 := sq15
  rw [hx15, hy15, s17] at s15
  replace s15 : sqR 15 = some _ := s15
  have s13 := sq13
  rw [hx13, hy13, s15] at s13
  replace s13 : sqR 13 = some _ := s13
  have s11 := sq11
  rw [hx11, hy11, s13] at s11
  replace s11 : sqR 11 = some _ := s11
  have s9 := sq9
  rw [hx9, hy9, s11] at s9
  replace s9 : sqR 9 = some _ := s9
  rw [s9] at hcd
  obtain rfl := Option.some.inj hcd
  refine chain_step hx9 hy9 (ev34 v0 B false v4 v5 v6 j v8 v9) g9 (a9) hE fun n9 => ?_
  refine chain_step hx11 hy11 (ev55 v0 B false v4 v5 v6 j v8 v9) g11 (fun t => a11 n9 t) hE fun n11 => ?_
  refine chain_step hx13 hy13 (ev78 v0 B false v4 v5 v6 j v8 v9) g13 (fun t => a13 n9 n11 t) hE fun n13 => ?_
  refine chain_step hx15 hy15 (ev100 v0 B false v4 v5 v6 j v8 v9) g15 (fun t => a15 n9 n11 n13 t) hE fun n15 => ?_
  refine chain_step hx17 hy17 (ev122 v0 B false v4 v5 v6 j v8 v9) g17 (fun t => a17 n9 n11 n13 n15 t) hE fun n17 => ?_
  refine chain_step hx19 hy19 (ev153 v0 B false v4 v5 v6 j v8 v9) g19 (fun t => a19 n9 n11 n13 n15 n17 t) hE fun n19 => ?_
  refine chain_step hx21 hy21 (ev174 v0 B false v4 v5 v6 j v8 v9) g21 (fun t => a21 n9 n11 n13 n15 n17 n19 t) hE fun n21 => ?_
  refine chain_step hx23 hy23 (ev189 v0 B false v4 v5 v6 j v8 v9) g23 (fun t => a23 n9 n11 n13 n15 n17 n19 n21 t) hE fun n23 => ?_
  refine chain_step hx25 hy25 (ev226 v0 B false v4 v5 v6 j v8 v9) g25 (fun t => a25 n9 n11 n13 n15 n17 n19 n21 n23 t) hE fun n25 => ?_
  refine chain_step hx27 hy27 (ev251 v0 B false v4 v5 v6 j v8 v9) g27 (fun t => a27 n9 n11 n13 n15 n17 n19 n21 n23 n25 t) hE fun n27 => ?_
  refine chain_step hx29 hy29 (ev298 v0 B false v4 v5 v6 j v8 v9) g29 (fun t => a29 n9 n11 n13 n15 n17 n19 n21 n23 n25 n27 t) hE fun n29 => ?_
  refine chain_step hx31 hy31 (ev340 v0 B false v4 v5 v6 j v8 v9) g31 (fun t => a31 n9 n11 n13 n15 n17 n19 n21 n23 n25 n27 n29 t) hE fun n31 => ?_
  exact fun u w hI => wp_skip (hN n9 n11 n13 n15 n17 n19 n21 n23 n25 n27 n29 n31 u w hI)
/-- All that is known of a round: what each guard answers, what its rule tells. -/
structure RndOk (v0 v4 v5 : Value) (t6 t8 t9 : Bool) (B : Nat) (j : Int) (I : World → Prop) (E : Act → World → Prop) (b : Nat → Bool) : Prop where
  g9 : GuardOk 9 34 (FA v0 B false v4 v5 (.bool t6) j (.bool t8) (.bool t9)) I (b 9)
  g11 : GuardOk 11 55 (FA v0 B false v4 v5 (.bool t6) j (.bool t8) (.bool t9)) I (b 11)
  g13 : GuardOk 13 78 (FA v0 B false v4 v5 (.bool t6) j (.bool t8) (.bool t9)) I (b 13)
  g15 : GuardOk 15 100 (FA v0 B false v4 v5 (.bool t6) j (.bool t8) (.bool t9)) I (b 15)
  g17 : GuardOk 17 122 (FA v0 B false v4 v5 (.bool t6) j (.bool t8) (.bool t9)) I (b 17)
  g19 : GuardOk 19 153 (FA v0 B false v4 v5 (.bool t6) j (.bool t8) (.bool t9)) I (b 19)
  g21 : GuardOk 21 174 (FA v0 B false v4 v5 (.bool t6) j (.bool t8) (.bool t9)) I (b 21)
  g23 : GuardOk 23 189 (FA v0 B false v4 v5 (.bool t6) j (.bool t8) (.bool t9)) I (b 23)
  g25 : GuardOk 25 226 (FA v0 B false v4 v5 (.bool t6) j (.bool t8) (.bool t9)) I (b 25)
  g27 : GuardOk 27 251 (FA v0 B false v4 v5 (.bool t6) j (.bool t8) (.bool t9)) I (b 27)
  g29 : GuardOk 29 298 (FA v0 B false v4 v5 (.bool t6) j (.bool t8) (.bool t9)) I (b 29)
  g31 : GuardOk 31 340 (FA v0 B false v4 v5 (.bool t6) j (.bool t8) (.bool t9)) I (b 31)
  a9 : b 9 = true → ArmOk 10 (FA v0 B false v4 v5 (.bool t6) j (.bool t8) (.bool t9)) I E
  a11 : b 9 = false → b 11 = true → ArmOk 12 (FA v0 B false v4 v5 (.bool t6) j (.bool t8) (.bool t9)) I E
  a13 : b 9 = false → b 11 = false → b 13 = true → ArmOk 14 (FA v0 B false v4 v5 (.bool t6) j (.bool t8) (.bool t9)) I E
  a15 : b 9 = false → b 11 = false → b 13 = false → b 15 = true → ArmOk 16 (FA v0 B false v4 v5 (.bool t6) j (.bool t8) (.bool t9)) I E
  a17 : b 9 = false → b 11 = false → b 13 = false → b 15 = false → b 17 = true → ArmOk 18 (FA v0 B false v4 v5 (.bool t6) j (.bool t8) (.bool t9)) I E
  a19 : b 9 = false → b 11 = false → b 13 = false → b 15 = false → b 17 = false → b 19 = true → ArmOk 20 (FA v0 B false v4 v5 (.bool t6) j (.bool t8) (.bool t9)) I E
  a21 : b 9 = false → b 11 = false → b 13 = false → b 15 = false → b 17 = false → b 19 = false → b 21 = true → ArmOk 22 (FA v0 B false v4 v5 (.bool t6) j (.bool t8) (.bool t9)) I E
  a23 : b 9 = false → b 11 = false → b 13 = false → b 15 = false → b 17 = false → b 19 = false → b 21 = false → b 23 = true → ArmOk 24 (FA v0 B false v4 v5 (.bool t6) j (.bool t8) (.bool t9)) I E
  a25 : b 9 = false → b 11 = false → b 13 = false → b 15 = false → b 17 = false → b 19 = false → b 21 = false → b 23 = false → b 25 = true → ArmOk 26 (FA v0 B false v4 v5 (.bool t6) j (.bool t8) (.bool t9)) I E
  a27 : b 9 = false → b 11 = false → b 13 = false → b 15 = false → b 17 = false → b 19 = false → b 21 = false → b 23 = false → b 25 = false → b 27 = true → ArmOk 28 (FA v0 B false v4 v5 (.bool t6) j (.bool t8) (.bool t9)) I E
  a29 : b 9 = false → b 11 = false → b 13 = false → b 15 = false → b 17 = false → b 19 = false → b 21 = false → b 23 = false → b 25 = false → b 27 = false → b 29 = true → ArmOk 30 (FA v0 B false v4 v5 (.bool t6) j (.bool t8) (.bool t9)) I E
  a31 : b 9 = false → b 11 = false → b 13 = false → b 15 = false → b 17 = false → b 19 = false → b 21 = false → b 23 = false → b 25 = false → b 27 = false → b 29 = false → b 31 = true → ArmOk 32 (FA v0 B false v4 v5 (.bool t6) j (.bool t8) (.bool t9)) I E
def RLn : List Nat := [9, 11, 13, 15, 17, 19, 21, 23, 25, 27, 29, 31]
/-- What holds between two rounds. -/
def LInv (v0 v4 v5 : Value) (t6 : Bool) (B : Nat) (I : World → Prop) (N : Int → Prop) (a : Act) (w : World) : Prop := ∃ (j : Int) (v8 v9 : Value) (u : Nat → Value), 1 ≤ j ∧ j ≤ 10 ∧ N j ∧ I w ∧ a = FA v0 B false v4 v5 (.bool t6) j v8 v9 u
theorem LInv.mk {v0 v4 v5 v8 v9 : Value} {t6 : Bool} {B : Nat} {I : World → Prop} {N : Int → Prop} {w : World} {j : Int} {t : List Value} (h : 1 ≤ j ∧ j ≤ 10) (hN : N j) (hI : I w) (ht : t.length = 374) : LInv v0 v4 v5 t6 B I N ⟨(v0 :: .pointer (some ⟨B, 0, none⟩) :: .pointer (some ⟨B + 1, 0, none⟩) :: .bool false :: v4 :: v5 :: .bool t6 :: .int .i64 j :: v8 :: v9 :: t).toArray, []⟩ w := by
  obtain ⟨u, hu⟩ := frL_mk v0 (.pointer (some ⟨B, 0, none⟩)) (.pointer (some ⟨B + 1, 0, none⟩)) (.bool false) v4 v5 (.bool t6) (.int .i64 j) v8 v9 t ht
  exact ⟨j, v8, v9, u, h.1, h.2, hN, hI, by rw [hu]; rfl⟩
set_option maxRecDepth 100000 in
theorem rMeas_FA (v0 : Value) (B : Nat) (b3 : Bool) (v4 v5 v6 : Value) (j : Int) (v8 v9 : Value) (u : Nat → Value) (w : World) : rMeas (FA v0 B b3 v4 v5 v6 j v8 v9 u) w = 10 - j.toNat := rfl
theorem then_self {P : Program} {c : Code} {Q : Exit → Act → World → Prop} {a : Act} {w : World} (h : c.wp P (Exit.then (Q .normal) Q) a w) : c.wp P Q a w := wp_mono h fun e a w h => by cases e <;> exact h
theorem round_all {v0 v5 : Value} {t6 t8 t9 : Bool} {B : Nat} {k wv j : Int} {I : World → Prop} {E : Act → World → Prop} {b : Nat → Bool} {Q : Exit → Act → World → Prop} (h8 : ((k == 5) || (k == 6)) = t8) (h9 : decide (0 < wv) = t9) (hI : ∀ w, I w → w.cell? ⟨B, 0, none⟩ = some (.int .i64 k)) (hj : 1 ≤ j) (hj9 : j ≤ 9) (hR : RndOk v0 (.int .i64 wv) v5 t6 t8 t9 B j I E b)
    (hE : ∀ a w, E a w → Q .ret a w) (hN : (∀ r ∈ RLn, b r = false) → ∀ (u : Nat → Value) (v8 v9 : Value) (w : World), I w → Q .normal (FA v0 B false (.int .i64 wv) v5 (.bool t6) (j + 1) v8 v9 u) w) :
    ∀ (u : Nat → Value) (v8 v9 : Value) (w : World), I w → roundC.wp Tryd.prog Q (FA v0 B false (.int .i64 wv) v5 (.bool t6) j v8 v9 u) w := by
  intro u v8 v9 w hIw
  obtain ⟨x5, hx5⟩ := of_some rs5
  obtain ⟨x6, hx6⟩ := of_some rs6
  obtain ⟨x7, hx7⟩ := of_some rs7
  obtain ⟨x8, hx8⟩ := of_some rs8
  have hr := round_eq
  rw [hx5, hx6, hx7, hx8] at hr
  cases hq : sqR 9 with
  | none => rw [hq] at hr; cases hr
  | some cd =>
  rw [hq] at hr
  replace hr : some roundC = some _ := hr
  rw [Option.some.inj hr]
  refine wp_seq (wp_seq (rd5 x5 hx5 v0 _ v5 _ v8 v9 B j u w _ _ fun u' hu => ?_))
  rw [decide_eq_true hj9] at hu
  refine wp_cond_true ((ev21 v0 B false _ v5 _ j v8 v9 u').trans hu) (wp_skip ?_)
  show Code.wp _ _ _ _ _
  refine wp_seq (wp_block (wp_seq (rd7 x7 hx7 v0 _ v5 _ v8 v9 B j k u' w (hI w hIw) _ _ fun u2 => ?_)))
  rw [h8]
  refine wp_seq (rd8 x8 hx8 v0 v5 _ _ v9 B j wv u2 w _ _ fun u3 => ?_)
  rw [h9]
  refine wp_block (chain_all (Q := Exit.inBlock 2 (Exit.inBlock 1 (Exit.then (Code.wp Tryd.prog x6 Q) Q))) hq hR.g9 hR.g11 hR.g13 hR.g15 hR.g17 hR.g19 hR.g21 hR.g23 hR.g25 hR.g27 hR.g29 hR.g31 hR.a9 hR.a11 hR.a13 hR.a15 hR.a17 hR.a19 hR.a21 hR.a23 hR.a25 hR.a27 hR.a29 hR.a31 (fun a w h => hE a w h) (fun n9 n11 n13 n15 n17 n19 n21 n23 n25 n27 n29 n31 u4 w4 hI4 => ?_) u3 w hIw)
  have hall : ∀ r ∈ RLn, b r = false := by
    intro r hr
    simp only [RLn, List.mem_cons, List.not_mem_nil, or_false] at hr
    rcases hr with rfl | rfl | rfl | rfl | rfl | rfl | rfl | rfl | rfl | rfl | rfl | rfl <;> assumption
  show Code.wp _ _ _ _ _
  exact then_self (rd6 x6 hx6 v0 _ v5 _ _ _ B j u4 w4 hj hj9 _ _ fun u5 => hN hall u5 _ _ w4 hI4)
theorem ruled_loop {v0 v5 : Value} {t6 t8 t9 : Bool} {B : Nat} {k wv : Int} {I : World → Prop} {E : Act → World → Prop} {N : Int → Prop} {Q : Exit → Act → World → Prop} (h8 : ((k == 5) || (k == 6)) = t8) (h9 : decide (0 < wv) = t9) (hI : ∀ w, I w → w.cell? ⟨B, 0, none⟩ = some (.int .i64 k))
    (hR : ∀ j, 1 ≤ j → j ≤ 9 → N j → ∃ b, RndOk v0 (.int .i64 wv) v5 t6 t8 t9 B j I E b ∧ ((∀ r ∈ RLn, b r = false) → N (j + 1))) (hE : ∀ a w, E a w → Q .ret a w)
    (hX : N 10 → ∀ (u : Nat → Value) (v8 v9 : Value) (w : World), I w → Q (.exit 0) (FA v0 B false (.int .i64 wv) v5 (.bool t6) 10 v8 v9 u) w) :
    ∀ a w, LInv v0 (.int .i64 wv) v5 t6 B I N a w → (Code.loop roundC).wp Tryd.prog Q a w := by
  intro a w h0
  refine wp_loop (LInv v0 (.int .i64 wv) v5 t6 B I N) rMeas h0 fun a w h => ?_
  obtain ⟨j, v8, v9, u, h1, h2, hN, hIw, rfl⟩ := h
  by_cases h10 : j = 10
  · subst h10
    obtain ⟨x5, hx5⟩ := of_some rs5
    obtain ⟨x6, hx6⟩ := of_some rs6
    obtain ⟨x7, hx7⟩ := of_some rs7
    obtain ⟨x8, hx8⟩ := of_some rs8
    have hr := round_eq
    rw [hx5, hx6, hx7, hx8] at hr
    cases hq : sqR 9 with
    | none => rw [hq] at hr; cases hr
    | some cd =>
    rw [hq] at hr
    replace hr : some roundC = some _ := hr
    rw [Option.some.inj hr]
    refine wp_seq (wp_seq (rd5 x5 hx5 v0 _ v5 _ v8 v9 B 10 u w _ _ fun u' hu => ?_))
    exact wp_cond_false ((ev21 v0 B false _ v5 _ 10 v8 v9 u').trans hu) (wp_exit (hX hN u' v8 v9 w hIw))
  · obtain ⟨b, hRd, hnext⟩ := hR j h1 (by omega) hN
    refine round_all (Q := Exit.then _ Q) h8 h9 hI h1 (by omega) hRd (fun a w h => hE a w h) (fun hall u' v8' v9' w' hI' => ?_) u v8 v9 w hIw
    refine ⟨⟨j + 1, v8', v9', u', by omega, by omega, hnext hall, hI', rfl⟩, ?_⟩
    rw [rMeas_FA, rMeas_FA]
    omega
end Go.Proofs.YtcodncddaemhlaaDoor
/- The reference's ruled round by round, in plain words; its guards and what its rules tell, in words of asks. -/
namespace Go.Proofs.YtcodncddaemhlaaDoor
open Go.RowKit

/-- What round j of ruled tells. -/
def twR (k : Int) (a b : AskT) (j : Int) : Option AskT :=
  if j = 1 then (if textA a = textA b then some a else none)
  else if j = 2 then (if k = 5 then (if a.kind = 2 ∨ b.kind = 2 then some (.mk 2 [] 0 []) else none) else if a.kind = 2 then some b else if b.kind = 2 then some a else none)
  else if j = 3 then (if textA b < textA a then some (.mk k [] 0 [b, a]) else none)
  else none
def waR (k n : Int) (y : AskT) (j : Int) : Option AskT :=
  if j = 4 then (if k = wholeK k + 2 ∧ n = 0 then some y else none)
  else if j = 5 then (if y.kind = 2 then some (.mk 2 [] 0 []) else none)
  else if j = 6 then (if k = wholeK k ∧ (y.kind = wholeK k ∨ y.kind = wholeK k + 2) then some (.mk (wholeK k) [] 0 y.X) else if k = wholeK k + 2 ∧ y.kind = wholeK k then some y else none)
  else if j = 7 then (if k = wholeK k + 2 ∧ y.kind = wholeK k + 2 ∧ n + y.n ≤ 100 then some (.mk (wholeK k + 2) [] (n + y.n) y.X) else none)
  else none
theorem tw_hit {k : Int} {a b y : AskT} {j : Int} (hN : ∀ i, 1 ≤ i → i < j → twR k a b i = none) (h : twR k a b j = some y) : twoA k a b = some y := by
  unfold twoA
  by_cases h1 : j = 1
  · subst h1
    unfold twR at h
    rw [if_pos rfl] at h
    by_cases ht : textA a = textA b
    · rw [if_pos ht] at h ⊢; exact h
    · rw [if_neg ht] at h; cases h
  by_cases h2 : j = 2
  · subst h2
    have n1 := hN 1 (by omega) (by omega)
    unfold twR at h n1
    rw [if_pos rfl] at n1
    rw [if_neg (by omega), if_pos rfl] at h
    by_cases ht : textA a = textA b
    · rw [if_pos ht] at n1; cases n1
    rw [if_neg ht]
    by_cases hk : k = 5
    · rw [if_pos hk] at h
      by_cases hd : a.kind = 2 ∨ b.kind = 2
      · rw [if_pos hd] at h; rw [if_pos ⟨hk, hd⟩]; exact h
      · rw [if_neg hd] at h; cases h
    · rw [if_neg hk] at h
      rw [if_neg (fun e => hk e.1)]
      by_cases ha : a.kind = 2
      · rw [if_pos ha] at h ⊢; exact h
      rw [if_neg ha] at h ⊢
      by_cases hb : b.kind = 2
      · rw [if_pos hb] at h ⊢; exact h
      · rw [if_neg hb] at h; cases h
  by_cases h3 : j = 3
  · subst h3
    have n1 := hN 1 (by omega) (by omega)
    have n2 := hN 2 (by omega) (by omega)
    unfold twR at h n1 n2
    rw [if_pos rfl] at n1
    rw [if_neg (by omega), if_pos rfl] at n2
    rw [if_neg (by omega), if_neg (by omega), if_pos rfl] at h
    by_cases ht : textA a = textA b
    · rw [if_pos ht] at n1; cases n1
    rw [if_neg ht]
    by_cases hk : k = 5
    · rw [if_pos hk] at n2
      by_cases hd : a.kind = 2 ∨ b.kind = 2
      · rw [if_pos hd] at n2; cases n2
      rw [if_neg (fun e => hd e.2), if_neg (fun e => hd (.inl e)), if_neg (fun e => hd (.inr e))]
      by_cases hl : textA b < textA a
      · rw [if_pos hl] at h ⊢; exact h
      · rw [if_neg hl] at h; cases h
    · rw [if_neg hk] at n2
      rw [if_neg (fun e => hk e.1)]
      by_cases ha : a.kind = 2
      · rw [if_pos ha] at n2; cases n2
      rw [if_neg ha] at n2 ⊢
      by_cases hb : b.kind = 2
      · rw [if_pos hb] at n2; cases n2
      rw [if_neg hb]
      by_cases hl : textA b < textA a
      · rw [if_pos hl] at h ⊢; exact h
      · rw [if_neg hl] at h; cases h
  · unfold twR at h
    rw [if_neg h1, if_neg h2, if_neg h3] at h
    cases h
theorem tw_miss {k : Int} {a b : AskT} (hN : ∀ i, 1 ≤ i → i < 10 → twR k a b i = none) : twoA k a b = none := by
  cases hq : twoA k a b with
  | none => rfl
  | some y =>
    exfalso
    have n1 := hN 1 (by omega) (by omega)
    have n2 := hN 2 (by omega) (by omega)
    have n3 := hN 3 (by omega) (by omega)
    unfold twR at n1 n2 n3
    rw [if_pos rfl] at n1
    rw [if_neg (by omega), if_pos rfl] at n2
    rw [if_neg (by omega), if_neg (by omega), if_pos rfl] at n3
    unfold twoA at hq
    by_cases ht : textA a = textA b
    · rw [if_pos ht] at n1; cases n1
    rw [if_neg ht] at hq
    by_cases hl : textA b < textA a
    · rw [if_pos hl] at n3; cases n3
    rw [if_neg hl] at hq
    by_cases hk : k = 5
    · rw [if_pos hk] at n2
      by_cases hd : a.kind = 2 ∨ b.kind = 2
      · rw [if_pos hd] at n2; cases n2
      rw [if_neg (fun e => hd e.2), if_neg (fun e => hd (.inl e)), if_neg (fun e => hd (.inr e))] at hq
      cases hq
    · rw [if_neg hk] at n2
      rw [if_neg (fun e => hk e.1)] at hq
      by_cases ha : a.kind = 2
      · rw [if_pos ha] at n2; cases n2
      rw [if_neg ha] at n2 hq
      by_cases hb : b.kind = 2
      · rw [if_pos hb] at n2; cases n2
      rw [if_neg hb] at hq
      cases hq
theorem wa_first {k n : Int} {y : AskT} (hk : k = wholeK k ∨ k = wholeK k + 2) : walkA k n y = ((waR k n y 4).or ((waR k n y 5).or ((waR k n y 6).or (waR k n y 7)))) := by
  have e4 : waR k n y 4 = (if k = wholeK k + 2 ∧ n = 0 then some y else none) := by unfold waR; rw [if_pos rfl]
  have e5 : waR k n y 5 = (if y.kind = 2 then some (.mk 2 [] 0 []) else none) := by unfold waR; rw [if_neg (by omega), if_pos rfl]
  have e6 : waR k n y 6 = (if k = wholeK k ∧ (y.kind = wholeK k ∨ y.kind = wholeK k + 2) then some (.mk (wholeK k) [] 0 y.X) else if k = wholeK k + 2 ∧ y.kind = wholeK k then some y else none) := by unfold waR; rw [if_neg (by omega), if_neg (by omega), if_pos rfl]
  have e7 : waR k n y 7 = (if k = wholeK k + 2 ∧ y.kind = wholeK k + 2 ∧ n + y.n ≤ 100 then some (.mk (wholeK k + 2) [] (n + y.n) y.X) else none) := by unfold waR; rw [if_neg (by omega), if_neg (by omega), if_neg (by omega), if_pos rfl]
  rw [e4, e5, e6, e7]
  unfold walkA
  by_cases h1 : k = wholeK k + 2 ∧ n = 0
  · rw [if_pos h1, if_pos h1]; rfl
  rw [if_neg h1, if_neg h1, Option.none_or]
  by_cases h2 : y.kind = 2
  · rw [if_pos h2, if_pos h2]; rfl
  rw [if_neg h2, if_neg h2, Option.none_or]
  by_cases h3 : k = wholeK k ∧ (y.kind = wholeK k ∨ y.kind = wholeK k + 2)
  · rw [if_pos h3, if_pos h3]; rfl
  rw [if_neg h3, if_neg h3]
  by_cases h4 : y.kind = wholeK k
  · rw [if_pos h4, if_pos ⟨hk.resolve_left (fun e => h3 ⟨e, .inl h4⟩), h4⟩]; rfl
  rw [if_neg h4, if_neg (show ¬ (k = wholeK k + 2 ∧ y.kind = wholeK k) from fun e => h4 e.2), Option.none_or]
  by_cases h5 : y.kind = wholeK k + 2 ∧ n + y.n ≤ 100
  · rw [if_pos h5, if_pos ⟨hk.resolve_left (fun e => h3 ⟨e, .inr h5.1⟩), h5.1, h5.2⟩]
  · rw [if_neg h5, if_neg (fun e => h5 e.2)]
theorem wa_hit {k n : Int} {y z : AskT} {j : Int} (hk : k = wholeK k ∨ k = wholeK k + 2) (hN : ∀ i, 1 ≤ i → i < j → waR k n y i = none) (h : waR k n y j = some z) : walkA k n y = some z := by
  rw [wa_first hk]
  by_cases h4 : j = 4
  · subst h4; rw [h]; rfl
  by_cases h5 : j = 5
  · subst h5; rw [hN 4 (by omega) (by omega), h]; rfl
  by_cases h6 : j = 6
  · subst h6; rw [hN 4 (by omega) (by omega), hN 5 (by omega) (by omega), h]; rfl
  by_cases h7 : j = 7
  · subst h7; rw [hN 4 (by omega) (by omega), hN 5 (by omega) (by omega), hN 6 (by omega) (by omega), h]; rfl
  unfold waR at h
  rw [if_neg h4, if_neg h5, if_neg h6, if_neg h7] at h
  cases h
theorem wa_miss {k n : Int} {y : AskT} (hk : k = wholeK k ∨ k = wholeK k + 2) (hN : ∀ i, 1 ≤ i → i < 10 → waR k n y i = none) : walkA k n y = none := by
  rw [wa_first hk, hN 4 (by omega) (by omega), hN 5 (by omega) (by omega), hN 6 (by omega) (by omega), hN 7 (by omega) (by omega)]
  rfl
theorem num_bd {x : AskT} (h : okA x) : 0 ≤ x.n ∧ x.n ≤ 100 := by
  obtain ⟨k, s, n, X⟩ := x
  show 0 ≤ n ∧ n ≤ 100
  obtain ⟨_, _, _, _, h5⟩ := ok_form h
  by_cases hk : numK k = false
  · have := h5 hk; omega
  · have hk' : k = 10 ∨ k = 11 ∨ k = 15 := by
      have : numK k = true := by simpa using hk
      exact of_decide_eq_true this
    rcases hk' with rfl | rfl | rfl
    · exact ok_num h (by omega)
    · exact ok_num h (by omega)
    · have := ok_num15 h; omega
/-! ### In memory -/
/-- The call's world, grown: its box, its result's box. -/
structure InvR (x : AskT) (A : Option Addr) (c : Nat) (w wr : World) : Prop where
  below : Below w.heap.size w wr
  box : BoxA w.heap.size (.int .i64 x.kind) (.string ⟨x.name.toArray⟩) (.int .i64 x.n) (.slice A x.X.length c) wr
  blk : Blk wr (w.heap.size + 1) 24 [.int .i64 0, .string ⟨#[]⟩, .int .i64 0, .slice none 0 0]
theorem InvR.grow {x : AskT} {A : Option Addr} {c : Nat} {w wr w' : World} (h : InvR x A c w wr) (hb : Below wr.heap.size wr w') : InvR x A c w w' := ⟨below_newA h.below hb, h.box.below hb, h.blk.below hb h.blk.lt⟩
/-- The end of a rule that fits. -/
def EndR (ok : Nat → Prop) (x : AskT) (w : World) (a : Act) (w' : World) : Prop :=
  ∃ (v0 v4 v5 v6 : Value) (j : Int) (v8 v9 : Value) (u : Nat → Value) (y : AskT), ruledA x = some y ∧ a = FA v0 w.heap.size true v4 v5 v6 j v8 v9 u ∧
    ∃ (A : Option Addr) (c : Nat), Blk w' (w.heap.size + 1) 24 [.int .i64 y.kind, .string ⟨y.name.toArray⟩, .int .i64 y.n, .slice A y.X.length c] ∧ AskP (fun k => ok k ∨ w.heap.size ≤ k) w' y A c ∧ Below w.heap.size w w'
/-- A child as it lies. -/
structure Kid (w : World) (b0 o : Nat) (x : AskT) (A : Option Addr) (c : Nat) : Prop where
  c1 : w.cell? ⟨b0, o, none⟩ = some (.int .i64 x.kind)
  c2 : w.cell? ⟨b0, o + 1, none⟩ = some (.string ⟨x.name.toArray⟩)
  c3 : w.cell? ⟨b0, o + 2, none⟩ = some (.int .i64 x.n)
  c4 : w.cell? ⟨b0, o + 3, none⟩ = some (.slice A x.X.length c)
theorem Kid.below {w w' : World} {b0 o : Nat} {x : AskT} {A : Option Addr} {c : Nat} (h : Kid w b0 o x A c) (hb : Below w.heap.size w w') : Kid w' b0 o x A c := ⟨cell_keptA h.c1 hb, cell_keptA h.c2 hb, cell_keptA h.c3 hb, cell_keptA h.c4 hb⟩
theorem kid_one {ok : Nat → Prop} {w : World} {k : Int} {s : List UInt8} {n : Int} {a : AskT} {A : Option Addr} {c : Nat} (h : AskP ok w (.mk k s n [a]) A c) : ∃ (b0 off : Nat) (Aa : Option Addr) (ca : Nat), A = some ⟨b0, off, none⟩ ∧ Kid w b0 off a Aa ca ∧ AskP ok w a Aa ca := by
  obtain ⟨b0, off, Aa, ca, hA, p1, p2, p3, p4, hca⟩ := AskP.child h (i := 0) (x := a) rfl
  simp only [Nat.zero_mul, Nat.add_zero] at p1 p2 p3 p4
  exact ⟨b0, off, Aa, ca, hA, ⟨p1, p2, p3, p4⟩, hca⟩
theorem kid_two {ok : Nat → Prop} {w : World} {k : Int} {s : List UInt8} {n : Int} {a b : AskT} {A : Option Addr} {c : Nat} (h : AskP ok w (.mk k s n [a, b]) A c) : ∃ (b0 off : Nat) (Aa : Option Addr) (ca : Nat) (Ab : Option Addr) (cb : Nat), A = some ⟨b0, off, none⟩ ∧ Kid w b0 off a Aa ca ∧ AskP ok w a Aa ca ∧ Kid w b0 (off + 4) b Ab cb ∧ AskP ok w b Ab cb := by
  obtain ⟨b0, off, Aa, ca, hA, p1, p2, p3, p4, hca⟩ := AskP.child h (i := 0) (x := a) rfl
  obtain ⟨b1, off1, Ab, cb, hA2, q1, q2, q3, q4, hcb⟩ := AskP.child h (i := 1) (x := b) rfl
  rw [hA] at hA2
  injection hA2 with hA2
  injection hA2 with e1 e2 _
  subst e1 e2
  simp only [Nat.zero_mul, Nat.add_zero, Nat.one_mul] at p1 p2 p3 p4 q1 q2 q3 q4
  exact ⟨b0, off, Aa, ca, Ab, cb, hA, ⟨p1, p2, p3, p4⟩, hca, ⟨q1, q2, q3, q4⟩, hcb⟩
theorem gsel {r s : Nat} {F : (Nat → Value) → Act} {I : World → Prop} {ru j : Int} {fl d : Bool} (hy : j = ru → fl = true → GuardOk r s F I d) (hn : (j = ru → fl = false) → GuardOk r s F I false) : GuardOk r s F I (decide (j = ru) && (fl && d)) := by
  by_cases hj : j = ru
  · cases fl with
    | true => rw [decide_eq_true hj, Bool.true_and, Bool.true_and]; exact hy hj rfl
    | false => rw [Bool.false_and, Bool.and_false]; exact hn fun _ => rfl
  · rw [decide_eq_false hj, Bool.false_and]
    exact hn fun e => absurd e hj
theorem sel_true {j ru : Int} {fl d : Bool} (h : (decide (j = ru) && (fl && d)) = true) : j = ru ∧ fl = true ∧ d = true := by
  simp only [Bool.and_eq_true, decide_eq_true_eq] at h
  exact h
section
variable {x : AskT} {A : Option Addr} {c : Nat} {w : World} {v0 v4 v5 : Value} {t6 t8 t9 : Bool} {j : Int}
theorem gno9 (hf : j = 1 → t8 = false) : GuardOk 9 34 (FA v0 w.heap.size false v4 v5 (.bool t6) j (.bool t8) (.bool t9)) (InvR x A c w) false := fun cd hc u w2 hI K Q hK => no9 cd hc v0 v4 v5 w.heap.size x.kind j t6 t8 t9 u w2 hI.box.c1 hf K Q fun u2 w3 h hb => hK u2 w3 h (hI.grow hb)
theorem gno11 (hf : j = 2 → t6 = false) : GuardOk 11 55 (FA v0 w.heap.size false v4 v5 (.bool t6) j (.bool t8) (.bool t9)) (InvR x A c w) false := fun cd hc u w2 hI K Q hK => no11 cd hc v0 v4 v5 w.heap.size x.kind j t6 t8 t9 u w2 hI.box.c1 hf K Q fun u2 w3 h hb => hK u2 w3 h (hI.grow hb)
theorem gno13 (hf : j = 2 → t8 = false ∨ t6 = true) : GuardOk 13 78 (FA v0 w.heap.size false v4 v5 (.bool t6) j (.bool t8) (.bool t9)) (InvR x A c w) false := fun cd hc u w2 hI K Q hK => no13 cd hc v0 v4 v5 w.heap.size x.kind j t6 t8 t9 u w2 hI.box.c1 hf K Q fun u2 w3 h hb => hK u2 w3 h (hI.grow hb)
theorem gno15 (hf : j = 2 → t8 = false ∨ t6 = true) : GuardOk 15 100 (FA v0 w.heap.size false v4 v5 (.bool t6) j (.bool t8) (.bool t9)) (InvR x A c w) false := fun cd hc u w2 hI K Q hK => no15 cd hc v0 v4 v5 w.heap.size x.kind j t6 t8 t9 u w2 hI.box.c1 hf K Q fun u2 w3 h hb => hK u2 w3 h (hI.grow hb)
theorem gno17 (hf : j = 3 → t8 = false) : GuardOk 17 122 (FA v0 w.heap.size false v4 v5 (.bool t6) j (.bool t8) (.bool t9)) (InvR x A c w) false := fun cd hc u w2 hI K Q hK => no17 cd hc v0 v4 v5 w.heap.size x.kind j t6 t8 t9 u w2 hI.box.c1 hf K Q fun u2 w3 h hb => hK u2 w3 h (hI.grow hb)
theorem gno19 (hf : j = 4 → t9 = false) : GuardOk 19 153 (FA v0 w.heap.size false v4 v5 (.bool t6) j (.bool t8) (.bool t9)) (InvR x A c w) false := fun cd hc u w2 hI K Q hK => no19 cd hc v0 v4 v5 w.heap.size x.kind j t6 t8 t9 u w2 hI.box.c1 hf K Q fun u2 w3 h hb => hK u2 w3 h (hI.grow hb)
theorem gno21 (hf : j = 5 → t9 = false) : GuardOk 21 174 (FA v0 w.heap.size false v4 v5 (.bool t6) j (.bool t8) (.bool t9)) (InvR x A c w) false := fun cd hc u w2 hI K Q hK => no21 cd hc v0 v4 v5 w.heap.size x.kind j t6 t8 t9 u w2 hI.box.c1 hf K Q fun u2 w3 h hb => hK u2 w3 h (hI.grow hb)
theorem gno23 (hf : j = 6 → t9 = false) : GuardOk 23 189 (FA v0 w.heap.size false v4 v5 (.bool t6) j (.bool t8) (.bool t9)) (InvR x A c w) false := fun cd hc u w2 hI K Q hK => no23 cd hc v0 v4 v5 w.heap.size x.kind j t6 t8 t9 u w2 hI.box.c1 hf K Q fun u2 w3 h hb => hK u2 w3 h (hI.grow hb)
theorem gno25 (hf : j = 6 → t9 = false) : GuardOk 25 226 (FA v0 w.heap.size false v4 v5 (.bool t6) j (.bool t8) (.bool t9)) (InvR x A c w) false := fun cd hc u w2 hI K Q hK => no25 cd hc v0 v4 v5 w.heap.size x.kind j t6 t8 t9 u w2 hI.box.c1 hf K Q fun u2 w3 h hb => hK u2 w3 h (hI.grow hb)
theorem gno27 (hf : j = 7 → t9 = false) : GuardOk 27 251 (FA v0 w.heap.size false v4 v5 (.bool t6) j (.bool t8) (.bool t9)) (InvR x A c w) false := fun cd hc u w2 hI K Q hK => no27 cd hc v0 v4 v5 w.heap.size x.kind j t6 t8 t9 u w2 hI.box.c1 hf K Q fun u2 w3 h hb => hK u2 w3 h (hI.grow hb)
theorem gno29 (hf : j = 8 → ¬ 14 ≤ x.kind) : GuardOk 29 298 (FA v0 w.heap.size false v4 v5 (.bool t6) j (.bool t8) (.bool t9)) (InvR x A c w) false := fun cd hc u w2 hI K Q hK => no29 cd hc v0 v4 v5 w.heap.size x.kind j t6 t8 t9 u w2 hI.box.c1 hf K Q fun u2 w3 h hb => hK u2 w3 h (hI.grow hb)
theorem gno31 (hf : j = 9 → ¬ x.kind = 7) : GuardOk 31 340 (FA v0 w.heap.size false v4 v5 (.bool t6) j (.bool t8) (.bool t9)) (InvR x A c w) false := fun cd hc u w2 hI K Q hK => no31 cd hc v0 v4 v5 w.heap.size x.kind j t6 t8 t9 u w2 hI.box.c1 hf K Q fun u2 w3 h hb => hK u2 w3 h (hI.grow hb)
end
section
variable {x a b : AskT} {c : Nat} {w : World} {v0 v4 v5 : Value} {t6 t8 t9 : Bool} {b0 off : Nat} {Aa Ab : Option Addr} {ca cb : Nat}
theorem gy11 (ha : Kid w b0 off a Aa ca) (hb2 : Kid w b0 (off + 4) b Ab cb) (hm : 1 < x.X.length) : GuardOk 11 55 (FA v0 w.heap.size false v4 v5 (.bool true) 2 (.bool t8) (.bool t9)) (InvR x (some ⟨b0, off, none⟩) c w) ((a.kind == 2) || (b.kind == 2)) := fun cd hc u w2 hI K Q hK =>
  yes11 cd hc v0 v4 v5 w.heap.size t8 t9 b0 off x.X.length c a.kind b.kind u w2 hI.box.c4 (by omega) (ha.below hI.below).c1 (hb2.below hI.below).c1 K Q fun u2 w3 h hb => hK u2 w3 h (hI.grow hb)
theorem gy13 (ha : Kid w b0 off a Aa ca) (hm : 0 < x.X.length) : GuardOk 13 78 (FA v0 w.heap.size false v4 v5 (.bool false) 2 (.bool true) (.bool t9)) (InvR x (some ⟨b0, off, none⟩) c w) (a.kind == 2) := fun cd hc u w2 hI K Q hK =>
  yes13 cd hc v0 v4 v5 w.heap.size t9 b0 off x.X.length c a.kind u w2 hI.box.c4 (by omega) (ha.below hI.below).c1 K Q fun u2 w3 h hb => hK u2 w3 h (hI.grow hb)
theorem gy15 (hb2 : Kid w b0 (off + 4) b Ab cb) (hm : 1 < x.X.length) : GuardOk 15 100 (FA v0 w.heap.size false v4 v5 (.bool false) 2 (.bool true) (.bool t9)) (InvR x (some ⟨b0, off, none⟩) c w) (b.kind == 2) := fun cd hc u w2 hI K Q hK =>
  yes15 cd hc v0 v4 v5 w.heap.size t9 b0 off x.X.length c b.kind u w2 hI.box.c4 (by omega) (hb2.below hI.below).c1 K Q fun u2 w3 h hb => hK u2 w3 h (hI.grow hb)
theorem gy19 {pv : Int}  : GuardOk 19 153 (FA v0 w.heap.size false v4 (.int .i64 pv) (.bool t6) 4 (.bool t8) (.bool true)) (InvR x (some ⟨b0, off, none⟩) c w) ((x.kind == pv) && (x.n == 0)) := fun cd hc u w2 hI K Q hK =>
  yes19 cd hc v0 v4 w.heap.size t6 t8 x.kind pv x.n u w2 hI.box.c1 hI.box.c3 K Q fun u2 w3 h hb => hK u2 w3 h (hI.grow hb)
theorem gy21 (ha : Kid w b0 off a Aa ca) (hm : 0 < x.X.length) : GuardOk 21 174 (FA v0 w.heap.size false v4 v5 (.bool t6) 5 (.bool t8) (.bool true)) (InvR x (some ⟨b0, off, none⟩) c w) (a.kind == 2) := fun cd hc u w2 hI K Q hK =>
  yes21 cd hc v0 v4 v5 w.heap.size t6 t8 b0 off x.X.length c a.kind u w2 hI.box.c4 (by omega) (ha.below hI.below).c1 K Q fun u2 w3 h hb => hK u2 w3 h (hI.grow hb)
theorem gy23 {wv pv : Int} (ha : Kid w b0 off a Aa ca) (hm : 0 < x.X.length) : GuardOk 23 189 (FA v0 w.heap.size false (.int .i64 wv) (.int .i64 pv) (.bool t6) 6 (.bool t8) (.bool true)) (InvR x (some ⟨b0, off, none⟩) c w) ((x.kind == wv) && ((a.kind == wv) || (a.kind == pv))) := fun cd hc u w2 hI K Q hK =>
  yes23 cd hc v0 w.heap.size t6 t8 x.kind wv pv b0 off x.X.length c a.kind u w2 hI.box.c1 hI.box.c4 (by omega) (ha.below hI.below).c1 K Q fun u2 w3 h hb => hK u2 w3 h (hI.grow hb)
theorem gy25 {wv pv : Int} (ha : Kid w b0 off a Aa ca) (hm : 0 < x.X.length) : GuardOk 25 226 (FA v0 w.heap.size false (.int .i64 wv) (.int .i64 pv) (.bool t6) 6 (.bool t8) (.bool true)) (InvR x (some ⟨b0, off, none⟩) c w) ((x.kind == pv) && (a.kind == wv)) := fun cd hc u w2 hI K Q hK =>
  yes25 cd hc v0 w.heap.size t6 t8 x.kind wv pv b0 off x.X.length c a.kind u w2 hI.box.c1 hI.box.c4 (by omega) (ha.below hI.below).c1 K Q fun u2 w3 h hb => hK u2 w3 h (hI.grow hb)
theorem gy27 {wv pv : Int} (ha : Kid w b0 off a Aa ca) (hm : 0 < x.X.length) (hn : IntKind.i64.wrap (x.n + a.n) = x.n + a.n) : GuardOk 27 251 (FA v0 w.heap.size false (.int .i64 wv) (.int .i64 pv) (.bool t6) 7 (.bool t8) (.bool true)) (InvR x (some ⟨b0, off, none⟩) c w) ((x.kind == pv) && ((a.kind == pv) && decide (x.n + a.n ≤ 100))) := fun cd hc u w2 hI K Q hK =>
  yes27 cd hc v0 w.heap.size t6 t8 x.kind wv pv x.n a.n b0 off x.X.length c a.kind u w2 hI.box.c1 hI.box.c3 hI.box.c4 (by omega) (ha.below hI.below).c1 (ha.below hI.below).c3 hn K Q fun u2 w3 h hb => hK u2 w3 h (hI.grow hb)
theorem gy29 (ha : Kid w b0 off a Aa ca) (hm : 0 < x.X.length) (hk : 14 ≤ x.kind) : GuardOk 29 298 (FA v0 w.heap.size false v4 v5 (.bool t6) 8 (.bool t8) (.bool t9)) (InvR x (some ⟨b0, off, none⟩) c w) ((a.kind == x.kind) && (((⟨a.name.toArray⟩ : ByteArray).toList == (⟨x.name.toArray⟩ : ByteArray).toList) && (a.n == x.n))) := fun cd hc u w2 hI K Q hK =>
  yes29 cd hc v0 v4 v5 w.heap.size t6 t8 t9 x.kind x.n a.n ⟨x.name.toArray⟩ ⟨a.name.toArray⟩ b0 off x.X.length c a.kind u w2 hI.box.c1 hI.box.c2 hI.box.c3 hI.box.c4 (by omega) (ha.below hI.below).c1 (ha.below hI.below).c2 (ha.below hI.below).c3 (decide_eq_true hk) K Q fun u2 w3 h hb => hK u2 w3 h (hI.grow hb)
theorem gtr_sv (x y : List UInt8) : (!(Op.bytesLess (⟨x.toArray⟩ : ByteArray).toList (⟨y.toArray⟩ : ByteArray).toList) && !((⟨x.toArray⟩ : ByteArray).toList == (⟨y.toArray⟩ : ByteArray).toList)) = decide (y < x) := by
  rw [less_sv, eq_sv, Bool.eq_iff_iff]
  simp only [Bool.and_eq_true, Bool.not_eq_true', decide_eq_false_iff_not, decide_eq_true_eq]
  constructor
  · exact fun ⟨h1, h2⟩ => slt_of_not (fun e => h2 e.symm) h1
  · exact fun h => ⟨fun h2 => List.lt_asymm h h2, fun e => by subst e; exact List.lt_irrefl _ h⟩
theorem gy9 {ok : Nat → Prop} (ha : Kid w b0 off a Aa ca) (hb2 : Kid w b0 (off + 4) b Ab cb) (pa : AskP ok w a Aa ca) (pb : AskP ok w b Ab cb) (oa : okA a) (ob : okA b) (sa : sizeA a ≤ 60) (sb : sizeA b ≤ 60) (hm : x.X.length = 2) : GuardOk 9 34 (FA v0 w.heap.size false v4 v5 (.bool t6) 1 (.bool true) (.bool t9)) (InvR x (some ⟨b0, off, none⟩) c w) (decide (textA a = textA b)) := fun cd hc u w2 hI K Q hK =>
  yes9 cd hc v0 v4 v5 w.heap.size t6 t9 _ b0 off c a.kind a.n ⟨a.name.toArray⟩ Aa a.X.length ca b.kind b.n ⟨b.name.toArray⟩ Ab b.X.length cb u w2 (fun W hW => rAlike_any a Aa ca b Ab cb W (AskAt.keep (below_newA hI.below hW) _ _ _ (AskP.at_ _ _ _ pa)) (AskAt.keep (below_newA hI.below hW) _ _ _ (AskP.at_ _ _ _ pb)) oa ob sa sb) (by have := hI.box.c4; rwa [hm] at this) (ha.below hI.below).c1 (ha.below hI.below).c2 (ha.below hI.below).c3 (ha.below hI.below).c4 (hb2.below hI.below).c1 (hb2.below hI.below).c2 (hb2.below hI.below).c3 (hb2.below hI.below).c4 K Q fun u2 w3 h hb => hK u2 w3 h (hI.grow hb)
theorem gy17 {ok : Nat → Prop} (ha : Kid w b0 off a Aa ca) (hb2 : Kid w b0 (off + 4) b Ab cb) (pa : AskP ok w a Aa ca) (pb : AskP ok w b Ab cb) (oa : okA a) (ob : okA b) (sa : sizeA a ≤ 60) (sb : sizeA b ≤ 60) (hm : x.X.length = 2) : GuardOk 17 122 (FA v0 w.heap.size false v4 v5 (.bool t6) 3 (.bool true) (.bool t9)) (InvR x (some ⟨b0, off, none⟩) c w) (decide (textA b < textA a)) := by
  rw [← gtr_sv]
  exact fun cd hc u w2 hI K Q hK => yes17 cd hc v0 v4 v5 w.heap.size t6 t9 b0 off c a.kind a.n ⟨a.name.toArray⟩ Aa a.X.length ca b.kind b.n ⟨b.name.toArray⟩ Ab b.X.length cb ⟨(textA a).toArray⟩ ⟨(textA b).toArray⟩ u w2 (fun W hW => rText_any a Aa ca W (AskAt.keep (below_newA hI.below hW) _ _ _ (AskP.at_ _ _ _ pa)) oa sa) (fun W hW => rText_any b Ab cb W (AskAt.keep (below_newA hI.below hW) _ _ _ (AskP.at_ _ _ _ pb)) ob sb) (by have := hI.box.c4; rwa [hm] at this) (ha.below hI.below).c1 (ha.below hI.below).c2 (ha.below hI.below).c3 (ha.below hI.below).c4 (hb2.below hI.below).c1 (hb2.below hI.below).c2 (hb2.below hI.below).c3 (hb2.below hI.below).c4 K Q fun u2 w3 h hb => hK u2 w3 h (hI.grow hb)
theorem gy31 {ok : Nat → Prop} {dd : AskT} {b2 of2 cd2 : Nat} {Ad : Option Addr} (ha : Kid w b0 off a Aa ca) (hb2 : Kid w b0 (off + 4) b Ab cb) (hk7 : b.kind = 7) (hb7 : Ab = some ⟨b2, of2, none⟩) (hbl : b.X.length = 2) (hd : Kid w b2 of2 dd Ad cd2) (pa : AskP ok w a Aa ca) (pd : AskP ok w dd Ad cd2) (oa : okA a) (od : okA dd) (sa : sizeA a ≤ 60) (sd : sizeA dd ≤ 60) (hm : x.X.length = 2) (hx7 : x.kind = 7) : GuardOk 31 340 (FA v0 w.heap.size false v4 v5 (.bool t6) 9 (.bool t8) (.bool t9)) (InvR x (some ⟨b0, off, none⟩) c w) (decide (textA a = textA dd)) := fun cd hc u w2 hI K Q hK =>
  yes31 cd hc v0 v4 v5 w.heap.size t6 t8 t9 _ b0 off c b2 of2 cb a.kind a.n ⟨a.name.toArray⟩ Aa a.X.length ca dd.kind dd.n ⟨dd.name.toArray⟩ Ad dd.X.length cd2 u w2 (fun W hW => rAlike_any a Aa ca dd Ad cd2 W (AskAt.keep (below_newA hI.below hW) _ _ _ (AskP.at_ _ _ _ pa)) (AskAt.keep (below_newA hI.below hW) _ _ _ (AskP.at_ _ _ _ pd)) oa od sa sd) (by have := hI.box.c1; rwa [hx7] at this) (by have := hI.box.c4; rwa [hm] at this) (ha.below hI.below).c1 (ha.below hI.below).c2 (ha.below hI.below).c3 (ha.below hI.below).c4 (by have := (hb2.below hI.below).c1; rwa [hk7] at this) (by have := (hb2.below hI.below).c4; rwa [hb7, hbl] at this) (hd.below hI.below).c1 (hd.below hI.below).c2 (hd.below hI.below).c3 (hd.below hI.below).c4 K Q fun u2 w3 h hb => hK u2 w3 h (hI.grow hb)
theorem gy311 (hb2 : Kid w b0 (off + 4) b Ab cb) (hk7 : ¬ b.kind = 7) (hm : 1 < x.X.length) (hx7 : x.kind = 7) : GuardOk 31 340 (FA v0 w.heap.size false v4 v5 (.bool t6) 9 (.bool t8) (.bool t9)) (InvR x (some ⟨b0, off, none⟩) c w) false := fun cd hc u w2 hI K Q hK =>
  yes311 cd hc v0 v4 v5 w.heap.size t6 t8 t9 b0 off x.X.length c b.kind u w2 (by have := hI.box.c1; rwa [hx7] at this) hI.box.c4 (by omega) (hb2.below hI.below).c1 hk7 K Q fun u2 w3 h hb => hK u2 w3 h (hI.grow hb)
variable {ok : Nat → Prop} {v6 v8 v9 : Value} {j : Int}
theorem ar10 (ha : Kid w b0 off a Aa ca) (pa : AskP ok w a Aa ca) (hm : 0 < x.X.length) (hru : ruledA x = some a) : ArmOk 10 (FA v0 w.heap.size false v4 v5 v6 j v8 v9) (InvR x (some ⟨b0, off, none⟩) c w) (EndR ok x w) := fun cd hc u w2 hI K Q hK =>
  arm10 cd hc v0 v4 v5 v6 v8 v9 j w.heap.size b0 off x.X.length c a.kind a.n ⟨a.name.toArray⟩ Aa a.X.length ca u w2 w (by omega) hI.box.c4 (ha.below hI.below).c1 (ha.below hI.below).c2 (ha.below hI.below).c3 (ha.below hI.below).c4 hI.blk hI.below (Nat.le_succ _) K Q fun u2 w3 hb hB => hK _ _ ⟨v0, _, _, v6, j, v8, v9, u2, a, hru, rfl, Aa, ca, hb, rule_keep pa hB, hB⟩
theorem ar16 (ha : Kid w b0 off a Aa ca) (pa : AskP ok w a Aa ca) (hm : 0 < x.X.length) (hru : ruledA x = some a) : ArmOk 16 (FA v0 w.heap.size false v4 v5 v6 j v8 v9) (InvR x (some ⟨b0, off, none⟩) c w) (EndR ok x w) := fun cd hc u w2 hI K Q hK =>
  arm16 cd hc v0 v4 v5 v6 v8 v9 j w.heap.size b0 off x.X.length c a.kind a.n ⟨a.name.toArray⟩ Aa a.X.length ca u w2 w (by omega) hI.box.c4 (ha.below hI.below).c1 (ha.below hI.below).c2 (ha.below hI.below).c3 (ha.below hI.below).c4 hI.blk hI.below (Nat.le_succ _) K Q fun u2 w3 hb hB => hK _ _ ⟨v0, _, _, v6, j, v8, v9, u2, a, hru, rfl, Aa, ca, hb, rule_keep pa hB, hB⟩
theorem ar20 (ha : Kid w b0 off a Aa ca) (pa : AskP ok w a Aa ca) (hm : 0 < x.X.length) (hru : ruledA x = some a) : ArmOk 20 (FA v0 w.heap.size false v4 v5 v6 j v8 v9) (InvR x (some ⟨b0, off, none⟩) c w) (EndR ok x w) := fun cd hc u w2 hI K Q hK =>
  arm20 cd hc v0 v4 v5 v6 v8 v9 j w.heap.size b0 off x.X.length c a.kind a.n ⟨a.name.toArray⟩ Aa a.X.length ca u w2 w (by omega) hI.box.c4 (ha.below hI.below).c1 (ha.below hI.below).c2 (ha.below hI.below).c3 (ha.below hI.below).c4 hI.blk hI.below (Nat.le_succ _) K Q fun u2 w3 hb hB => hK _ _ ⟨v0, _, _, v6, j, v8, v9, u2, a, hru, rfl, Aa, ca, hb, rule_keep pa hB, hB⟩
theorem ar26 (ha : Kid w b0 off a Aa ca) (pa : AskP ok w a Aa ca) (hm : 0 < x.X.length) (hru : ruledA x = some a) : ArmOk 26 (FA v0 w.heap.size false v4 v5 v6 j v8 v9) (InvR x (some ⟨b0, off, none⟩) c w) (EndR ok x w) := fun cd hc u w2 hI K Q hK =>
  arm26 cd hc v0 v4 v5 v6 v8 v9 j w.heap.size b0 off x.X.length c a.kind a.n ⟨a.name.toArray⟩ Aa a.X.length ca u w2 w (by omega) hI.box.c4 (ha.below hI.below).c1 (ha.below hI.below).c2 (ha.below hI.below).c3 (ha.below hI.below).c4 hI.blk hI.below (Nat.le_succ _) K Q fun u2 w3 hb hB => hK _ _ ⟨v0, _, _, v6, j, v8, v9, u2, a, hru, rfl, Aa, ca, hb, rule_keep pa hB, hB⟩
theorem ar30 (ha : Kid w b0 off a Aa ca) (pa : AskP ok w a Aa ca) (hm : 0 < x.X.length) (hru : ruledA x = some a) : ArmOk 30 (FA v0 w.heap.size false v4 v5 v6 j v8 v9) (InvR x (some ⟨b0, off, none⟩) c w) (EndR ok x w) := fun cd hc u w2 hI K Q hK =>
  arm30 cd hc v0 v4 v5 v6 v8 v9 j w.heap.size b0 off x.X.length c a.kind a.n ⟨a.name.toArray⟩ Aa a.X.length ca u w2 w (by omega) hI.box.c4 (ha.below hI.below).c1 (ha.below hI.below).c2 (ha.below hI.below).c3 (ha.below hI.below).c4 hI.blk hI.below (Nat.le_succ _) K Q fun u2 w3 hb hB => hK _ _ ⟨v0, _, _, v6, j, v8, v9, u2, a, hru, rfl, Aa, ca, hb, rule_keep pa hB, hB⟩
theorem ar14 (hb2 : Kid w b0 (off + 4) b Ab cb) (pb : AskP ok w b Ab cb) (hm : 1 < x.X.length) (hru : ruledA x = some b) : ArmOk 14 (FA v0 w.heap.size false v4 v5 v6 j v8 v9) (InvR x (some ⟨b0, off, none⟩) c w) (EndR ok x w) := fun cd hc u w2 hI K Q hK =>
  arm14 cd hc v0 v4 v5 v6 v8 v9 j w.heap.size b0 off x.X.length c b.kind b.n ⟨b.name.toArray⟩ Ab b.X.length cb u w2 w (by omega) hI.box.c4 (hb2.below hI.below).c1 (hb2.below hI.below).c2 (hb2.below hI.below).c3 (hb2.below hI.below).c4 hI.blk hI.below (Nat.le_succ _) K Q fun u2 w3 hb hB => hK _ _ ⟨v0, _, _, v6, j, v8, v9, u2, b, hru, rfl, Ab, cb, hb, rule_keep pb hB, hB⟩
theorem ar12  (hru : ruledA x = some (.mk 2 [] 0 [])) : ArmOk 12 (FA v0 w.heap.size false v4 v5 v6 j v8 v9) (InvR x (some ⟨b0, off, none⟩) c w) (EndR ok x w) := fun cd hc u w2 hI K Q hK =>
  arm12 cd hc v0 v4 v5 v6 v8 v9 j w.heap.size  u w2 w  hI.blk hI.below (Nat.le_succ _) K Q fun u2 _ hb hB => hK _ _ ⟨v0, _, _, v6, j, v8, v9, u2, (.mk 2 [] 0 []), hru, rfl, none, 0, hb, askP_nil 2 [] 0, hB⟩
theorem ar22  (hru : ruledA x = some (.mk 2 [] 0 [])) : ArmOk 22 (FA v0 w.heap.size false v4 v5 v6 j v8 v9) (InvR x (some ⟨b0, off, none⟩) c w) (EndR ok x w) := fun cd hc u w2 hI K Q hK =>
  arm22 cd hc v0 v4 v5 v6 v8 v9 j w.heap.size  u w2 w  hI.blk hI.below (Nat.le_succ _) K Q fun u2 _ hb hB => hK _ _ ⟨v0, _, _, v6, j, v8, v9, u2, (.mk 2 [] 0 []), hru, rfl, none, 0, hb, askP_nil 2 [] 0, hB⟩
theorem ar24 {wv : Int} (ha : Kid w b0 off a Aa ca) (pa : AskP ok w a Aa ca) (hm : 0 < x.X.length) (hru : ruledA x = some (.mk wv [] 0 a.X)) : ArmOk 24 (FA v0 w.heap.size false (.int .i64 wv) v5 v6 j v8 v9) (InvR x (some ⟨b0, off, none⟩) c w) (EndR ok x w) := fun cd hc u w2 hI K Q hK =>
  arm24 cd hc v0 v5 v6 v8 v9 j w.heap.size wv b0 off x.X.length c Aa a.X.length ca u w2 w (by omega) hI.box.c4 (ha.below hI.below).c4 hI.blk hI.below (Nat.le_succ _) K Q fun u2 w3 hb hB => hK _ _ ⟨v0, _, _, v6, j, v8, v9, u2, (.mk wv [] 0 a.X), hru, rfl, Aa, ca, hb, askP_X wv [] 0 (rule_keep pa hB), hB⟩
theorem ar28 {pv : Int} (ha : Kid w b0 off a Aa ca) (pa : AskP ok w a Aa ca) (hm : 0 < x.X.length) (hn : IntKind.i64.wrap (x.n + a.n) = x.n + a.n) (hru : ruledA x = some (.mk pv [] (x.n + a.n) a.X)) : ArmOk 28 (FA v0 w.heap.size false v4 (.int .i64 pv) v6 j v8 v9) (InvR x (some ⟨b0, off, none⟩) c w) (EndR ok x w) := fun cd hc u w2 hI K Q hK =>
  arm28 cd hc v0 v4 v6 v8 v9 j w.heap.size pv x.n a.n b0 off x.X.length c Aa a.X.length ca u w2 w (by omega) hn hI.box.c3 hI.box.c4 (ha.below hI.below).c3 (ha.below hI.below).c4 hI.blk hI.below (Nat.le_succ _) K Q fun u2 w3 hb hB => hK _ _ ⟨v0, _, _, v6, j, v8, v9, u2, (.mk pv [] (x.n + a.n) a.X), hru, rfl, Aa, ca, hb, askP_X pv [] _ (rule_keep pa hB), hB⟩
theorem ar18 (ha : Kid w b0 off a Aa ca) (pa : AskP ok w a Aa ca) (hb2 : Kid w b0 (off + 4) b Ab cb) (pb : AskP ok w b Ab cb) (hm : x.X.length = 2) (hru : ruledA x = some (.mk x.kind [] 0 [b, a])) : ArmOk 18 (FA v0 w.heap.size false v4 v5 v6 j v8 v9) (InvR x (some ⟨b0, off, none⟩) c w) (EndR ok x w) := fun cd hc u w2 hI K Q hK =>
  arm18 cd hc v0 v4 v5 v6 v8 v9 j w.heap.size x.kind b0 off c a.kind a.n ⟨a.name.toArray⟩ Aa a.X.length ca b.kind b.n ⟨b.name.toArray⟩ Ab b.X.length cb u w2 w (by have := lt_of_cell' ha.c1; omega) hI.box.c1 (by have := hI.box.c4; rwa [hm] at this) (ha.below hI.below).c1 (ha.below hI.below).c2 (ha.below hI.below).c3 (ha.below hI.below).c4 (hb2.below hI.below).c1 (hb2.below hI.below).c2 (hb2.below hI.below).c3 (hb2.below hI.below).c4 hI.blk hI.below (Nat.le_succ _) K Q fun u2 _ ⟨G, hG, hc8, hb⟩ hB => hK _ _ ⟨v0, _, _, v6, j, v8, v9, u2, _, hru, rfl, some ⟨G, 0, none⟩, 2, hb, askP_two x.kind [] 0 (.inr hG) hc8 (rule_keep pb hB) (rule_keep pa hB), hB⟩
theorem ar32 {dd : AskT} {b2 of2 cd2 : Nat} {Ad : Option Addr} (ha : Kid w b0 off a Aa ca) (pa : AskP ok w a Aa ca) (hb2 : Kid w b0 (off + 4) b Ab cb) (hb7 : Ab = some ⟨b2, of2, none⟩) (hbl : b.X.length = 2) (hd : Kid w b2 (of2 + 4) dd Ad cd2) (pd : AskP ok w dd Ad cd2) (hm : x.X.length = 2) (hru : ruledA x = some (.mk 6 [] 0 [a, dd])) : ArmOk 32 (FA v0 w.heap.size false v4 v5 v6 j v8 v9) (InvR x (some ⟨b0, off, none⟩) c w) (EndR ok x w) := fun cd hc u w2 hI K Q hK =>
  arm32 cd hc v0 v4 v5 v6 v8 v9 j w.heap.size b0 off c b2 of2 cb a.kind a.n ⟨a.name.toArray⟩ Aa a.X.length ca dd.kind dd.n ⟨dd.name.toArray⟩ Ad dd.X.length cd2 u w2 w (by have := hI.box.c4; rwa [hm] at this) (ha.below hI.below).c1 (ha.below hI.below).c2 (ha.below hI.below).c3 (ha.below hI.below).c4 (by have := (hb2.below hI.below).c4; rwa [hb7, hbl] at this) (hd.below hI.below).c1 (hd.below hI.below).c2 (hd.below hI.below).c3 (hd.below hI.below).c4 hI.blk hI.below (Nat.le_succ _) K Q fun u2 _ ⟨G, hG, hc8, hb⟩ hB => hK _ _ ⟨v0, _, _, v6, j, v8, v9, u2, _, hru, rfl, some ⟨G, 0, none⟩, 2, hb, askP_two 6 [] 0 (.inr hG) hc8 (rule_keep pa hB) (rule_keep pd hB), hB⟩
end
end Go.Proofs.YtcodncddaemhlaaDoor
/- The classes of kinds in the reference's ruled: what each round knows. -/
namespace Go.Proofs.YtcodncddaemhlaaDoor
open Go.RowKit

/-- No rule before this round fits. -/
def NoR (f : Int → Option AskT) (j : Int) : Prop := ∀ i, 1 ≤ i → i < j → f i = none
theorem NoR.next {f : Int → Option AskT} {j : Int} (h : NoR f j) (hj : f j = none) : NoR f (j + 1) := fun i h1 h2 => by
  by_cases e : i = j
  · rw [e]; exact hj
  · exact h i h1 (by omega)
section
variable {k n : Int} {s : List UInt8} {a b : AskT} {A : Option Addr} {c : Nat} {w : World} {ok : Nat → Prop} {v0 v4 v5 : Value} {j : Int}
theorem rnd_two {t6 : Bool} (hA : AskP ok w (.mk k s n [a, b]) A c) (hok : okA (.mk k s n [a, b])) (hs : sizeA (.mk k s n [a, b]) ≤ 60) (hk : k = 5 ∨ k = 6) (h6 : (k == 5) = t6) (h1 : 1 ≤ j) (hN : NoR (twR k a b) j) :
    ∃ bs, RndOk v0 v4 v5 t6 true false w.heap.size j (InvR (.mk k s n [a, b]) A c w) (EndR ok (.mk k s n [a, b]) w) bs ∧ ((∀ r ∈ RLn, bs r = false) → NoR (twR k a b) (j + 1)) := by
  obtain ⟨b0, off, Aa, ca, Ab, cb, rfl, ka, pa, kb, pb⟩ := kid_two hA
  have hoa := ok_kids hok a (by simp)
  have hob := ok_kids hok b (by simp)
  have hsz := sz2 k s n a b
  have hru : ∀ y, twR k a b j = some y → ruledA (.mk k s n [a, b]) = some y := fun y hy => by
    rw [ruledA_mk, if_pos hk]
    exact tw_hit hN hy
  have hm : (AskT.mk k s n [a, b]).X.length = 2 := rfl
  refine ⟨fun r => match r with
    | 9 => decide (j = 1) && (true && decide (textA a = textA b))
    | 11 => decide (j = 2) && (t6 && ((a.kind == 2) || (b.kind == 2)))
    | 13 => decide (j = 2) && (!t6 && (a.kind == 2))
    | 15 => decide (j = 2) && (!t6 && (b.kind == 2))
    | 17 => decide (j = 3) && (true && decide (textA b < textA a))
    | _ => false,
    { g9 := gsel (fun e _ => by subst e; exact gy9 ka kb pa pb hoa hob (by omega) (by omega) hm) (fun h => gno9 fun e => absurd (h e) (by simp))
      g11 := gsel (fun e h => by subst e h; exact gy11 ka kb (by omega)) (fun h => gno11 h)
      g13 := gsel (fun e h => by subst e; cases t6 with
        | true => cases h
        | false => exact gy13 ka (by omega)) (fun h => gno13 fun e => .inr (by simpa using h e))
      g15 := gsel (fun e h => by subst e; cases t6 with
        | true => cases h
        | false => exact gy15 kb (by omega)) (fun h => gno15 fun e => .inr (by simpa using h e))
      g17 := gsel (fun e _ => by subst e; exact gy17 ka kb pa pb hoa hob (by omega) (by omega) hm) (fun h => gno17 fun e => absurd (h e) (by simp))
      g19 := gno19 fun _ => rfl
      g21 := gno21 fun _ => rfl
      g23 := gno23 fun _ => rfl
      g25 := gno25 fun _ => rfl
      g27 := gno27 fun _ => rfl
      g29 := gno29 fun _ => by show ¬ 14 ≤ k; omega
      g31 := gno31 fun _ => by show ¬ k = 7; omega
      a9 := fun h => by
        obtain ⟨rfl, _, h⟩ := sel_true h
        exact ar10 ka pa (by omega) (hru a (by unfold twR; rw [if_pos rfl, if_pos (of_decide_eq_true h)]))
      a11 := fun _ h => by
        obtain ⟨rfl, h5, h⟩ := sel_true h
        subst h5
        refine ar12 (hru _ ?_)
        unfold twR
        rw [if_neg (by omega), if_pos rfl, if_pos (by simpa using h6), if_pos (by simpa using h)]
      a13 := fun _ _ h => by
        obtain ⟨rfl, h5, h⟩ := sel_true h
        replace h5 : t6 = false := by simpa using h5
        subst h5
        refine ar14 kb pb (by omega) (hru _ ?_)
        unfold twR
        rw [if_neg (by omega), if_pos rfl, if_neg (by simpa using h6), if_pos (by simpa using h)]
      a15 := fun _ _ n13 h => by
        obtain ⟨rfl, h5, h⟩ := sel_true h
        replace h5 : t6 = false := by simpa using h5
        subst h5
        refine ar16 ka pa (by omega) (hru _ ?_)
        have h13 : ¬ a.kind = 2 := by simpa using n13
        unfold twR
        rw [if_neg (by omega), if_pos rfl, if_neg (by simpa using h6), if_neg h13, if_pos (by simpa using h)]
      a17 := fun _ _ _ _ h => by
        obtain ⟨rfl, _, h⟩ := sel_true h
        refine ar18 ka pa kb pb hm (hru _ ?_)
        unfold twR
        rw [if_neg (by omega), if_neg (by omega), if_pos rfl, if_pos (of_decide_eq_true h)]
        rfl
      a19 := fun _ _ _ _ _ h => by cases h
      a21 := fun _ _ _ _ _ _ h => by cases h
      a23 := fun _ _ _ _ _ _ _ h => by cases h
      a25 := fun _ _ _ _ _ _ _ _ h => by cases h
      a27 := fun _ _ _ _ _ _ _ _ _ h => by cases h
      a29 := fun _ _ _ _ _ _ _ _ _ _ h => by cases h
      a31 := fun _ _ _ _ _ _ _ _ _ _ _ h => by cases h }, fun hall => hN.next ?_⟩
  have n9 : (decide (j = 1) && (true && decide (textA a = textA b))) = false := hall 9 (by simp [RLn])
  have n11 : (decide (j = 2) && (t6 && ((a.kind == 2) || (b.kind == 2)))) = false := hall 11 (by simp [RLn])
  have n13 : (decide (j = 2) && (!t6 && (a.kind == 2))) = false := hall 13 (by simp [RLn])
  have n15 : (decide (j = 2) && (!t6 && (b.kind == 2))) = false := hall 15 (by simp [RLn])
  have n17 : (decide (j = 3) && (true && decide (textA b < textA a))) = false := hall 17 (by simp [RLn])
  unfold twR
  by_cases j1 : j = 1
  · rw [if_pos j1]
    simp only [j1, decide_true, Bool.true_and, decide_eq_false_iff_not] at n9
    rw [if_neg n9]
  rw [if_neg j1]
  by_cases j2 : j = 2
  · rw [if_pos j2]
    simp only [j2, decide_true, Bool.true_and] at n11 n13 n15
    cases t6 with
    | true =>
      rw [if_pos (by simpa using h6)]
      rw [Bool.true_and] at n11
      rw [if_neg (by simpa using n11)]
    | false =>
      rw [if_neg (by simpa using h6), if_neg (by simpa using n13), if_neg (by simpa using n15)]
  rw [if_neg j2]
  by_cases j3 : j = 3
  · rw [if_pos j3]
    simp only [j3, decide_true, Bool.true_and, decide_eq_false_iff_not] at n17
    rw [if_neg n17]
  · rw [if_neg j3]
theorem rnd_walk {wv pv : Int} (hA : AskP ok w (.mk k s n [a]) A c) (hok : okA (.mk k s n [a])) (hk : k = 8 ∨ k = 9 ∨ k = 10 ∨ k = 11) (hw : wv = wholeK k) (hp : pv = wholeK k + 2) (h1 : 1 ≤ j) (hN : NoR (waR k n a) j) :
    ∃ bs, RndOk v0 (.int .i64 wv) (.int .i64 pv) false false true w.heap.size j (InvR (.mk k s n [a]) A c w) (EndR ok (.mk k s n [a]) w) bs ∧ ((∀ r ∈ RLn, bs r = false) → NoR (waR k n a) (j + 1)) := by
  obtain ⟨b0, off, Aa, ca, rfl, ka, pa⟩ := kid_one hA
  have hoa := ok_kids hok a (by simp)
  have hkk : k = wholeK k ∨ k = wholeK k + 2 := by unfold wholeK; rcases hk with rfl | rfl | rfl | rfl <;> decide
  have hru : ∀ y, waR k n a j = some y → ruledA (.mk k s n [a]) = some y := fun y hy => by
    rw [ruledA_mk, if_neg (by omega), if_pos hk]
    exact wa_hit hkk hN hy
  have hm : (AskT.mk k s n [a]).X.length = 1 := rfl
  have hn1 := num_bd hok
  have hn2 := num_bd hoa
  have hn : IntKind.i64.wrap ((AskT.mk k s n [a]).n + a.n) = (AskT.mk k s n [a]).n + a.n := IntWalk.i64_in _ (by omega)
  refine ⟨fun r => match r with
    | 19 => decide (j = 4) && (true && ((k == pv) && (n == 0)))
    | 21 => decide (j = 5) && (true && (a.kind == 2))
    | 23 => decide (j = 6) && (true && ((k == wv) && ((a.kind == wv) || (a.kind == pv))))
    | 25 => decide (j = 6) && (true && ((k == pv) && (a.kind == wv)))
    | 27 => decide (j = 7) && (true && ((k == pv) && ((a.kind == pv) && decide (n + a.n ≤ 100))))
    | _ => false,
    { g9 := gno9 fun _ => rfl
      g11 := gno11 fun _ => rfl
      g13 := gno13 fun _ => .inl rfl
      g15 := gno15 fun _ => .inl rfl
      g17 := gno17 fun _ => rfl
      g19 := gsel (fun e _ => by subst e; exact gy19) (fun h => gno19 fun e => absurd (h e) (by simp))
      g21 := gsel (fun e _ => by subst e; exact gy21 ka (by omega)) (fun h => gno21 fun e => absurd (h e) (by simp))
      g23 := gsel (fun e _ => by subst e; exact gy23 ka (by omega)) (fun h => gno23 fun e => absurd (h e) (by simp))
      g25 := gsel (fun e _ => by subst e; exact gy25 ka (by omega)) (fun h => gno25 fun e => absurd (h e) (by simp))
      g27 := gsel (fun e _ => by subst e; exact gy27 ka (by omega) hn) (fun h => gno27 fun e => absurd (h e) (by simp))
      g29 := gno29 fun _ => by show ¬ 14 ≤ k; omega
      g31 := gno31 fun _ => by show ¬ k = 7; omega
      a9 := fun h => by cases h
      a11 := fun _ h => by cases h
      a13 := fun _ _ h => by cases h
      a15 := fun _ _ _ h => by cases h
      a17 := fun _ _ _ _ h => by cases h
      a19 := fun _ _ _ _ _ h => by
        obtain ⟨rfl, _, h⟩ := sel_true h
        simp only [Bool.and_eq_true, beq_iff_eq] at h
        refine ar20 ka pa (by omega) (hru _ ?_)
        unfold waR
        rw [if_pos rfl, if_pos ⟨by omega, h.2⟩]
      a21 := fun _ _ _ _ _ _ h => by
        obtain ⟨rfl, _, h⟩ := sel_true h
        refine ar22 (hru _ ?_)
        unfold waR
        rw [if_neg (by omega), if_pos rfl, if_pos (by simpa using h)]
      a23 := fun _ _ _ _ _ _ _ h => by
        obtain ⟨rfl, _, h⟩ := sel_true h
        simp only [Bool.and_eq_true, Bool.or_eq_true, beq_iff_eq] at h
        subst hw hp
        refine ar24 ka pa (by omega) (hru _ ?_)
        unfold waR
        rw [if_neg (by omega), if_neg (by omega), if_pos rfl, if_pos h]
      a25 := fun _ _ _ _ _ _ _ _ h => by
        obtain ⟨rfl, _, h⟩ := sel_true h
        simp only [Bool.and_eq_true, beq_iff_eq] at h
        refine ar26 ka pa (by omega) (hru _ ?_)
        unfold waR
        rw [if_neg (by omega), if_neg (by omega), if_pos rfl, if_neg (fun e => by have := e.1; omega), if_pos ⟨by omega, by omega⟩]
      a27 := fun _ _ _ _ _ _ _ _ _ h => by
        obtain ⟨rfl, _, h⟩ := sel_true h
        simp only [Bool.and_eq_true, beq_iff_eq, decide_eq_true_eq] at h
        subst hp
        refine ar28 ka pa (by omega) hn (hru _ ?_)
        unfold waR
        rw [if_neg (by omega), if_neg (by omega), if_neg (by omega), if_pos rfl, if_pos h]
        rfl
      a29 := fun _ _ _ _ _ _ _ _ _ _ h => by cases h
      a31 := fun _ _ _ _ _ _ _ _ _ _ _ h => by cases h }, fun hall => hN.next ?_⟩
  have n19 : (decide (j = 4) && (true && ((k == pv) && (n == 0)))) = false := hall 19 (by simp [RLn])
  have n21 : (decide (j = 5) && (true && (a.kind == 2))) = false := hall 21 (by simp [RLn])
  have n23 : (decide (j = 6) && (true && ((k == wv) && ((a.kind == wv) || (a.kind == pv))))) = false := hall 23 (by simp [RLn])
  have n25 : (decide (j = 6) && (true && ((k == pv) && (a.kind == wv)))) = false := hall 25 (by simp [RLn])
  have n27 : (decide (j = 7) && (true && ((k == pv) && ((a.kind == pv) && decide (n + a.n ≤ 100))))) = false := hall 27 (by simp [RLn])
  subst hw hp
  unfold waR
  by_cases j1 : j = 4
  · rw [if_pos j1]
    simp only [j1, decide_true, Bool.true_and] at n19
    exact if_neg fun e => by simp [e.1.symm, e.2] at n19
  rw [if_neg j1]
  by_cases j2 : j = 5
  · rw [if_pos j2]
    simp only [j2, decide_true, Bool.true_and] at n21
    exact if_neg fun e => by simp [e] at n21
  rw [if_neg j2]
  by_cases j3 : j = 6
  · rw [if_pos j3]
    simp only [j3, decide_true, Bool.true_and] at n23 n25
    rw [if_neg fun e => by rcases e.2 with h | h <;> simp [e.1.symm, h] at n23, if_neg fun e => by simp [e.1.symm, e.2] at n25]
  rw [if_neg j3]
  by_cases j4 : j = 7
  · rw [if_pos j4]
    simp only [j4, decide_true, Bool.true_and] at n27
    exact if_neg fun e => by simp [e.1.symm, e.2.1, e.2.2] at n27
  · rw [if_neg j4]
theorem rnd_same (hA : AskP ok w (.mk k s n [a]) A c) (hk : k = 14 ∨ k = 15) (h1 : 1 ≤ j) (hN : NoR (fun i => if i = 8 then sameA k s n a else none) j) :
    ∃ bs, RndOk v0 v4 v5 false false false w.heap.size j (InvR (.mk k s n [a]) A c w) (EndR ok (.mk k s n [a]) w) bs ∧ ((∀ r ∈ RLn, bs r = false) → NoR (fun i => if i = 8 then sameA k s n a else none) (j + 1)) := by
  obtain ⟨b0, off, Aa, ca, rfl, ka, pa⟩ := kid_one hA
  have hm : (AskT.mk k s n [a]).X.length = 1 := rfl
  have hsm : (((a.kind == k) && (((⟨a.name.toArray⟩ : ByteArray).toList == (⟨s.toArray⟩ : ByteArray).toList) && (a.n == n))) = true) ↔ (a.kind = k ∧ a.name = s ∧ a.n = n) := by
    rw [eq_sv]
    simp only [Bool.and_eq_true, beq_iff_eq, decide_eq_true_eq]
  refine ⟨fun r => match r with
    | 29 => decide (j = 8) && (true && ((a.kind == k) && (((⟨a.name.toArray⟩ : ByteArray).toList == (⟨s.toArray⟩ : ByteArray).toList) && (a.n == n))))
    | _ => false,
    { g9 := gno9 fun _ => rfl
      g11 := gno11 fun _ => rfl
      g13 := gno13 fun _ => .inl rfl
      g15 := gno15 fun _ => .inl rfl
      g17 := gno17 fun _ => rfl
      g19 := gno19 fun _ => rfl
      g21 := gno21 fun _ => rfl
      g23 := gno23 fun _ => rfl
      g25 := gno25 fun _ => rfl
      g27 := gno27 fun _ => rfl
      g29 := gsel (fun e _ => by subst e; exact gy29 ka (by omega) (by show 14 ≤ k; omega)) (fun h => gno29 fun e => absurd (h e) (by simp))
      g31 := gno31 fun _ => by show ¬ k = 7; omega
      a9 := fun h => by cases h
      a11 := fun _ h => by cases h
      a13 := fun _ _ h => by cases h
      a15 := fun _ _ _ h => by cases h
      a17 := fun _ _ _ _ h => by cases h
      a19 := fun _ _ _ _ _ h => by cases h
      a21 := fun _ _ _ _ _ _ h => by cases h
      a23 := fun _ _ _ _ _ _ _ h => by cases h
      a25 := fun _ _ _ _ _ _ _ _ h => by cases h
      a27 := fun _ _ _ _ _ _ _ _ _ h => by cases h
      a29 := fun _ _ _ _ _ _ _ _ _ _ h => by
        obtain ⟨rfl, _, h⟩ := sel_true h
        refine ar30 ka pa (by omega) ?_
        rw [ruledA_mk, if_neg (by omega), if_neg (by omega), if_pos hk]
        show sameA k s n a = some a
        unfold sameA
        rw [if_pos (hsm.1 h)]
      a31 := fun _ _ _ _ _ _ _ _ _ _ _ h => by cases h }, fun hall => hN.next ?_⟩
  have n29 : (decide (j = 8) && (true && ((a.kind == k) && (((⟨a.name.toArray⟩ : ByteArray).toList == (⟨s.toArray⟩ : ByteArray).toList) && (a.n == n))))) = false := hall 29 (by simp [RLn])
  by_cases j1 : j = 8
  · simp only [j1, decide_true, Bool.true_and] at n29
    rw [if_pos j1]
    unfold sameA
    exact if_neg fun e => by rw [hsm.2 e] at n29; cases n29
  · rw [if_neg j1]
theorem rnd_but (hA : AskP ok w (.mk 7 s n [a, b]) A c) (hok : okA (.mk 7 s n [a, b])) (hs : sizeA (.mk 7 s n [a, b]) ≤ 60) (h1 : 1 ≤ j) (hN : NoR (fun i => if i = 9 then butA a b else none) j) :
    ∃ bs, RndOk v0 v4 v5 false false false w.heap.size j (InvR (.mk 7 s n [a, b]) A c w) (EndR ok (.mk 7 s n [a, b]) w) bs ∧ ((∀ r ∈ RLn, bs r = false) → NoR (fun i => if i = 9 then butA a b else none) (j + 1)) := by
  obtain ⟨b0, off, Aa, ca, Ab, cb, rfl, ka, pa, kb, pb⟩ := kid_two hA
  have hoa := ok_kids hok a (by simp)
  have hob := ok_kids hok b (by simp)
  have hsz := sz2 7 s n a b
  have hm : (AskT.mk 7 s n [a, b]).X.length = 2 := rfl
  have key : ∃ d : Bool, GuardOk 31 340 (FA v0 w.heap.size false v4 v5 (.bool false) 9 (.bool false) (.bool false)) (InvR (.mk 7 s n [a, b]) (some ⟨b0, off, none⟩) c w) d ∧ (d = true → ArmOk 32 (FA v0 w.heap.size false v4 v5 (.bool false) 9 (.bool false) (.bool false)) (InvR (.mk 7 s n [a, b]) (some ⟨b0, off, none⟩) c w) (EndR ok (.mk 7 s n [a, b]) w)) ∧ (d = false → butA a b = none) := by
    by_cases h7 : b.kind = 7
    · obtain ⟨k', s', n', X'⟩ := b
      have hk7 : k' = 7 := h7
      subst hk7
      obtain ⟨cc, dd, hX'⟩ := ok_two hob (by omega)
      subst hX'
      obtain ⟨b2, of2, Ac, c2, Ad, d2, hAb, kc, pc, kdd, pd⟩ := kid_two pb
      have hsz2 := sz2 7 s' n' cc dd
      have hbt : butA a (.mk 7 s' n' [cc, dd]) = if textA cc = textA a then some (.mk 6 [] 0 [a, dd]) else none := rfl
      refine ⟨decide (textA a = textA cc), gy31 ka kb rfl hAb rfl kc pa pc hoa (ok_kids hob cc (by simp)) (by omega) (by omega) hm rfl, fun h => ar32 ka pa kb hAb rfl kdd pd hm ?_, fun h => ?_⟩
      · rw [ruledA_mk, if_neg (by omega), if_neg (by omega), if_neg (by omega), if_pos rfl]
        show butA a (.mk 7 s' n' [cc, dd]) = _
        rw [hbt, if_pos (of_decide_eq_true h).symm]
      · rw [hbt, if_neg fun e => (of_decide_eq_false h) e.symm]
    · refine ⟨false, gy311 kb h7 (by omega) rfl, (fun h => by cases h), fun _ => ?_⟩
      unfold butA
      rw [if_neg h7]
  obtain ⟨d, hg, ha, hd⟩ := key
  refine ⟨fun r => match r with
    | 31 => decide (j = 9) && (true && d)
    | _ => false,
    { g9 := gno9 fun _ => rfl
      g11 := gno11 fun _ => rfl
      g13 := gno13 fun _ => .inl rfl
      g15 := gno15 fun _ => .inl rfl
      g17 := gno17 fun _ => rfl
      g19 := gno19 fun _ => rfl
      g21 := gno21 fun _ => rfl
      g23 := gno23 fun _ => rfl
      g25 := gno25 fun _ => rfl
      g27 := gno27 fun _ => rfl
      g29 := gno29 fun _ => by show ¬ (14 : Int) ≤ 7; omega
      g31 := gsel (fun e _ => by subst e; exact hg) (fun h => gno31 fun e => absurd (h e) (by simp))
      a9 := fun h => by cases h
      a11 := fun _ h => by cases h
      a13 := fun _ _ h => by cases h
      a15 := fun _ _ _ h => by cases h
      a17 := fun _ _ _ _ h => by cases h
      a19 := fun _ _ _ _ _ h => by cases h
      a21 := fun _ _ _ _ _ _ h => by cases h
      a23 := fun _ _ _ _ _ _ _ h => by cases h
      a25 := fun _ _ _ _ _ _ _ _ h => by cases h
      a27 := fun _ _ _ _ _ _ _ _ _ h => by cases h
      a29 := fun _ _ _ _ _ _ _ _ _ _ h => by cases h
      a31 := fun _ _ _ _ _ _ _ _ _ _ _ h => by
        obtain ⟨rfl, _, h⟩ := sel_true h
        exact ha h }, fun hall => hN.next ?_⟩
  have n31 : (decide (j = 9) && (true && d)) = false := hall 31 (by simp [RLn])
  by_cases j1 : j = 9
  · simp only [j1, decide_true, Bool.true_and] at n31
    rw [if_pos j1]
    exact hd n31
  · rw [if_neg j1]
theorem rnd_none {X : List AskT} (hk : k = 1 ∨ k = 2 ∨ k = 3 ∨ k = 4 ∨ k = 12 ∨ k = 13) (hN : NoR (fun _ => none) j) :
    ∃ bs, RndOk v0 v4 v5 false false false w.heap.size j (InvR (.mk k s n X) A c w) (EndR ok (.mk k s n X) w) bs ∧ ((∀ r ∈ RLn, bs r = false) → NoR (fun _ => none) (j + 1)) := by
  refine ⟨fun _ => false,
    { g9 := gno9 fun _ => rfl
      g11 := gno11 fun _ => rfl
      g13 := gno13 fun _ => .inl rfl
      g15 := gno15 fun _ => .inl rfl
      g17 := gno17 fun _ => rfl
      g19 := gno19 fun _ => rfl
      g21 := gno21 fun _ => rfl
      g23 := gno23 fun _ => rfl
      g25 := gno25 fun _ => rfl
      g27 := gno27 fun _ => rfl
      g29 := gno29 fun _ => by show ¬ 14 ≤ k; omega
      g31 := gno31 fun _ => by show ¬ k = 7; omega
      a9 := fun h => by cases h
      a11 := fun _ h => by cases h
      a13 := fun _ _ h => by cases h
      a15 := fun _ _ _ h => by cases h
      a17 := fun _ _ _ _ h => by cases h
      a19 := fun _ _ _ _ _ h => by cases h
      a21 := fun _ _ _ _ _ _ h => by cases h
      a23 := fun _ _ _ _ _ _ _ h => by cases h
      a25 := fun _ _ _ _ _ _ _ _ h => by cases h
      a27 := fun _ _ _ _ _ _ _ _ _ h => by cases h
      a29 := fun _ _ _ _ _ _ _ _ _ _ h => by cases h
      a31 := fun _ _ _ _ _ _ _ _ _ _ _ h => by cases h }, fun _ => hN.next rfl⟩
end
end Go.Proofs.YtcodncddaemhlaaDoor
/- Contract of the reference: ruled, over what is known of its rounds. -/
namespace Go.Proofs.YtcodncddaemhlaaDoor
open Go.RowKit Go.Maps

set_option maxRecDepth 100000 in
set_option maxHeartbeats 4000000 in
theorem arm33 (cd : Code) (hc : rgR 33 = some cd) (v0 v4 v5 v6 v8 v9 : Value) (j : Int) (B : Nat) (k n : Int) (bs : ByteArray) (A : Option Addr) (m c : Nat) (u : Nat → Value) (w w0 : World) (h1 : w.cell? ⟨B, 0, none⟩ = some (.int .i64 k)) (h2 : w.cell? ⟨B, 1, none⟩ = some (.string bs)) (h3 : w.cell? ⟨B, 2, none⟩ = some (.int .i64 n)) (h4 : w.cell? ⟨B, 3, none⟩ = some (.slice A m c)) (RB : Blk w (B + 1) 24 [.int .i64 0, .string ⟨#[]⟩, .int .i64 0, .slice none 0 0]) (HB : Below w0.heap.size w0 w) (hle : w0.heap.size ≤ B + 1) (K : Act → World → Prop) (Q : Exit → Act → World → Prop)
    (hQ : ∀ (u' : Nat → Value) (w' : World), Blk w' (B + 1) 24 [.int .i64 k, .string bs, .int .i64 n, .slice A m c] → Below w0.heap.size w0 w' → K (FA v0 B false v4 v5 v6 j v8 v9 u') w') :
    cd.wp Tryd.prog (Exit.then K Q) (FA v0 B false v4 v5 v6 j v8 v9 u) w := by
  simp [rgR, rg, Tryd.f18] at hc
  subst hc
  unfold FA frL
  have HQ := Lib.hid hQ
  clear hQ
  have rf := RB.free
  have r1 := RB.cell (j := 0) rfl
  have r2 := RB.cell (j := 1) rfl
  have r3 := RB.cell (j := 2) rfl
  have r4 := RB.cell (j := 3) rfl
  have RBH := Lib.hid RB
  have HBH := Lib.hid HB
  have HLE := Lib.hid hle
  clear RB HB hle
  go_wp2_with fail
  refine fr_any (K := K) rfl (fun u' => HQ.out u' _ (blk_put4 RBH.out _ _ _ _) (below_put4A HBH.out HLE.out _ _ _ _))
set_option maxRecDepth 100000 in
set_option maxHeartbeats 4000000 in
theorem ret_fa {P : Ending → World → Prop} {w : World} {B : Nat} {b : Bool} {c1 c2 c3 c4 : Value} (hb : Blk w (B + 1) 24 [c1, c2, c3, c4]) (hP : P (.returned (.tuple #[.agg #[c1, c2, c3, c4], .bool b])) w) (v0 v4 v5 v6 : Value) (j : Int) (v8 v9 : Value) (u : Nat → Value) :
    bodyPost Tryd.prog Tryd.f18 P .ret (FA v0 B b v4 v5 v6 j v8 v9 u) w := by
  have q1 := hb.cell (j := 0) rfl
  have q2 := hb.cell (j := 1) rfl
  have q3 := hb.cell (j := 2) rfl
  have q4 := hb.cell (j := 3) rfl
  exact bodyPost_ret (v := .tuple #[.agg #[c1, c2, c3, c4], .bool b]) (by simp [results, Tryd.results18, go_sem, FA, frL, q1, q2, q3, q4]) rfl hP
theorem end33 {x : AskT} {A : Option Addr} {c : Nat} {w wr : World} {ok : Nat → Prop} (hI : InvR x A c w wr) (hA : AskP ok w x A c) (hru : ruledA x = none) (cd : Code) (hc : rgR 33 = some cd) (v0 v4 v5 v6 v8 v9 : Value) (j : Int) (u : Nat → Value) :
    (Code.seq cd .ret).wp Tryd.prog (bodyPost Tryd.prog Tryd.f18 (RulePost ok x (ruledA x) w)) (FA v0 w.heap.size false v4 v5 v6 j v8 v9 u) wr :=
  wp_seq (arm33 cd hc v0 v4 v5 v6 v8 v9 j w.heap.size x.kind x.n ⟨x.name.toArray⟩ A x.X.length c u wr w hI.box.c1 hI.box.c2 hI.box.c3 hI.box.c4 hI.blk hI.below (Nat.le_succ _) _ _ fun u' w' hb hB => wp_ret (ret_fa hb (rulePost_mk (y := x) (A := A) (c := c) (by rw [hru]; rfl) (by rw [hru]; rfl) rfl rfl (rule_keep hA hB) hB) _ _ _ _ _ _ _ _))
theorem end_fit {x : AskT} {w w' : World} {ok : Nat → Prop} {a : Act} (h : EndR ok x w a w') : bodyPost Tryd.prog Tryd.f18 (RulePost ok x (ruledA x) w) .ret a w' := by
  obtain ⟨v0, v4, v5, v6, j, v8, v9, u, y, hru, rfl, A, c, hb, hA, hB⟩ := h
  exact ret_fa hb (rulePost_mk (y := y) (A := A) (c := c) (by rw [hru]; rfl) (by rw [hru]; rfl) rfl rfl hA hB) _ _ _ _ _ _ _ _
set_option maxRecDepth 100000 in
set_option maxHeartbeats 4000000 in
theorem rRuled_of (k : Int) (s : List UInt8) (n : Int) (X : List AskT) (A : Option Addr) (c : Nat) (w : World) (ok : Nat → Prop) (hA : AskP ok w (.mk k s n X) A c) (hk : 1 ≤ k ∧ k ≤ 15) (f : Int → Option AskT) (hf : NoR f 10 → ruledA (.mk k s n X) = none) (t6 t8 t9 : Bool) (h6 : (k == 5) = t6) (h8 : ((k == 5) || (k == 6)) = t8) (h9 : decide (0 < wholeM k) = t9)
    (hR : ∀ (v0 : Value) (j : Int), 1 ≤ j → j ≤ 9 → NoR f j → ∃ bs, RndOk v0 (.int .i64 (wholeM k)) (.int .i64 (wholeM k + 2)) t6 t8 t9 w.heap.size j (InvR (.mk k s n X) A c w) (EndR ok (.mk k s n X) w) bs ∧ ((∀ r ∈ RLn, bs r = false) → NoR f (j + 1))) :
    Calls Tryd.prog 18 #[askV (.mk k s n X) A c] w (RulePost ok (.mk k s n X) (ruledA (.mk k s n X)) w) := by
  have HPX := Lib.hid hA
  have HF := Lib.hid hf
  have HR := Lib.hid hR
  have H8 := Lib.hid h8
  have H9 := Lib.hid h9
  have H6 := Lib.hid h6
  have hw0 : 0 ≤ wholeM k ∧ wholeM k ≤ 9 := by unfold wholeM; split <;> (try split) <;> omega
  obtain ⟨y, hy⟩ := boxA_new w (.int .i64 k) (.string ⟨s.toArray⟩) (.int .i64 n) (.slice A X.length c) 24
  obtain ⟨r, hr⟩ := boxA_new (w.alloc (.cells #[.int .i64 k, .string ⟨s.toArray⟩, .int .i64 n, .slice A X.length c] 24)) (.int .i64 0) (.string ⟨#[]⟩) (.int .i64 0) (.slice none 0 0) 24
  have Y := Lib.hid (y.below hr)
  have hbr := Blk.new (w.alloc (.cells #[.int .i64 k, .string ⟨s.toArray⟩, .int .i64 n, .slice A X.length c] 24)) #[.int .i64 0, .string ⟨#[]⟩, .int .i64 0, .slice none 0 0] 24
  rw [show (w.alloc (.cells #[.int .i64 k, .string ⟨s.toArray⟩, .int .i64 n, .slice A X.length c] 24)).heap.size = w.heap.size + 1 by simp] at hbr
  have RB := Lib.hid hbr
  have HY := Lib.hid (below_newA hy hr)
  clear hA hf hR h8 h9 h6 y hy r hr hbr
  have HVS := Lib.hid (show askV (.mk k s n X) A c = .agg #[.int .i64 k, .string ⟨s.toArray⟩, .int .i64 n, .slice A X.length c] from rfl)
  rw [HVS.out]
  generalize hbs : (⟨s.toArray⟩ : ByteArray) = bs at *
  have HBS := Lib.hid hbs
  clear hbs
  have hmm := @run_makeMap Tryd.prog
  go_enter Tryd.func18, Tryd.ntmps18
  go_upto_region 1 with fail
  generalize (w.alloc (.cells #[.int .i64 k, .string bs, .int .i64 n, .slice A X.length c] 24)).alloc (.cells #[.int .i64 0, .string ⟨#[]⟩, .int .i64 0, .slice none 0 0] 24) = w0 at *
  obtain ⟨BX, hBX⟩ : ∃ BX, BX = w.heap.size := ⟨_, rfl⟩
  have HBXE := Lib.hid hBX
  rw [← hBX] at Y RB ⊢
  clear hBX
  obtain ⟨y1, y2, y3, y4⟩ := Y.out
  obtain ⟨m1, m2, m3, m4, e1, e2, e3, e4, hb4, hlk⟩ := whole_map w0
  have e5 := hlk k hk
  have HB4 := Lib.hid hb4
  have Y4 := Lib.hid (Y.out.below hb4)
  clear hlk hb4 y1 y2 y3 y4
  obtain ⟨y1, y2, y3, y4⟩ := Y4.out
  go_cut [4] (fun s4 wx => s4 = .int .i64 (wholeM k) ∧ wx = m4)
  case first =>
    go_wp2_with fail
    go_meet
    exact ⟨rfl, rfl⟩
  case rest =>
  obtain ⟨rfl, hwc⟩ := hcut
  replace hwc := hwc.symm
  subst hwc
  have HB := Lib.hid (below_newA HY.out HB4.out)
  have RB4 := Lib.hid (RB.out.below HB4.out RB.out.lt)
  clear e1 e2 e3 e4 e5 hmm y1 y2 y3 y4 HB4 RB Y
  obtain ⟨y1, y2, y3, y4⟩ := Y4.out
  generalize wholeM k = wv at *
  have g6 : (k == 5) = t6 := H6.out
  have g6d : decide (k = 5) = t6 := by rw [← H6.out]; rfl
  go_upto_region 4 with fail
  clear g6 g6d
  go_wp2_with fail
  rename_i K hK
  have HK := Lib.hid hK
  clear hK y1 y2 y3 y4
  generalize hcc : Code.loop _ = CC
  have hcl : CC = Code.loop roundC := by
    rw [← hcc]
    kernel_rfl
  rw [hcl]
  clear hcl hcc
  have hbx := HBXE.out
  subst hbx
  have hbs := HBS.out
  subst hbs
  have hinv : InvR (.mk k s n X) A c w m4 := ⟨HB.out, Y4.out, RB4.out⟩
  refine ruled_loop (Q := Exit.inBlock 0 (Exit.then K (bodyPost Tryd.prog Tryd.f18 (RulePost ok (AskT.mk k s n X) (ruledA (AskT.mk k s n X)) w)))) (I := InvR (.mk k s n X) A c w) (E := EndR ok (.mk k s n X) w) (N := NoR f) H8.out H9.out (fun w h => h.box.c1) (fun j h1 h2 hN => HR.out _ j h1 h2 hN) (fun a w' h => end_fit h) (fun hN u v8 v9 w' hI => HK.out _ _ (end33 hI HPX.out (HF.out hN) _ rfl _ _ _ _ _ _ _ _)) _ _ (LInv.mk (j := 1) ⟨by omega, by omega⟩ (fun i h1 h2 => by omega) hinv rfl)
theorem rRuled_any : RuledCon := by
  intro x A c w ok hA hok hs
  obtain ⟨k, s, n, X⟩ := x
  obtain ⟨hk1, hk2, _⟩ := ok_form hok
  by_cases h56 : k = 5 ∨ k = 6
  · obtain ⟨a, b, rfl⟩ := ok_two hok (by omega)
    refine rRuled_of k s n [a, b] A c w ok hA ⟨hk1, hk2⟩ (twR k a b) (fun h => ?_) (k == 5) true false rfl (by rcases h56 with rfl | rfl <;> rfl) (by rcases h56 with rfl | rfl <;> rfl) (fun v0 j h1 h2 hN => rnd_two hA hok hs h56 rfl h1 hN)
    rw [ruledA_mk, if_pos h56]
    exact tw_miss h
  by_cases hw : k = 8 ∨ k = 9 ∨ k = 10 ∨ k = 11
  · obtain ⟨a, rfl⟩ := ok_one hok (by omega)
    have hwk : wholeM k = wholeK k := by rcases hw with rfl | rfl | rfl | rfl <;> rfl
    have hkk : k = wholeK k ∨ k = wholeK k + 2 := by unfold wholeK; rcases hw with rfl | rfl | rfl | rfl <;> decide
    refine rRuled_of k s n [a] A c w ok hA ⟨hk1, hk2⟩ (waR k n a) (fun h => ?_) false false true (by rcases hw with rfl | rfl | rfl | rfl <;> rfl) (by rcases hw with rfl | rfl | rfl | rfl <;> rfl) (by rcases hw with rfl | rfl | rfl | rfl <;> rfl) (fun v0 j h1 h2 hN => rnd_walk hA hok hw hwk (by rw [hwk]) h1 hN)
    rw [ruledA_mk, if_neg h56, if_pos hw]
    exact wa_miss hkk h
  by_cases hs4 : k = 14 ∨ k = 15
  · obtain ⟨a, rfl⟩ := ok_one hok (by omega)
    refine rRuled_of k s n [a] A c w ok hA ⟨hk1, hk2⟩ (fun i => if i = 8 then sameA k s n a else none) (fun h => ?_) false false false (by rcases hs4 with rfl | rfl <;> rfl) (by rcases hs4 with rfl | rfl <;> rfl) (by rcases hs4 with rfl | rfl <;> rfl) (fun v0 j h1 h2 hN => rnd_same hA hs4 h1 hN)
    rw [ruledA_mk, if_neg h56, if_neg hw, if_pos hs4]
    have h8 : (if (8 : Int) = 8 then sameA k s n a else none) = none := h 8 (by omega) (by omega)
    rw [if_pos rfl] at h8
    exact h8
  by_cases h7 : k = 7
  · subst h7
    obtain ⟨a, b, rfl⟩ := ok_two hok (by omega)
    refine rRuled_of 7 s n [a, b] A c w ok hA ⟨hk1, hk2⟩ (fun i => if i = 9 then butA a b else none) (fun h => ?_) false false false rfl rfl rfl (fun v0 j h1 h2 hN => rnd_but hA hok hs h1 hN)
    rw [ruledA_mk, if_neg h56, if_neg hw, if_neg hs4, if_pos rfl]
    have h9 : (if (9 : Int) = 9 then butA a b else none) = none := h 9 (by omega) (by omega)
    rw [if_pos rfl] at h9
    exact h9
  · have hkn : k = 1 ∨ k = 2 ∨ k = 3 ∨ k = 4 ∨ k = 12 ∨ k = 13 := by omega
    refine rRuled_of k s n X A c w ok hA ⟨hk1, hk2⟩ (fun _ => none) (fun _ => ?_) false false false (by rcases hkn with rfl | rfl | rfl | rfl | rfl | rfl <;> rfl) (by rcases hkn with rfl | rfl | rfl | rfl | rfl | rfl <;> rfl) (by rcases hkn with rfl | rfl | rfl | rfl | rfl | rfl <;> rfl) (fun v0 j h1 h2 hN => rnd_none hkn hN)
    rw [ruledA_mk, if_neg h56, if_neg hw, if_neg hs4, if_neg h7]
end Go.Proofs.YtcodncddaemhlaaDoor

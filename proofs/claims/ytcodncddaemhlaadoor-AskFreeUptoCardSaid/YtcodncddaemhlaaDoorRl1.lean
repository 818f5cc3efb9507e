/- Contracts: slices.Index and slices.Contains at texts; the rules' twice, the reference's doubled; slices.Concat of any list of lists. Lengths together below 2^40. -/
import Derived.Test.YtcodncddaemhlaaDoorName10
namespace Go.Proofs.YtcodncddaemhlaaDoor
open Go.RowKit

def inL (l : List (List UInt8)) (s : List UInt8) : Bool := decide (s ∈ l)
set_option maxHeartbeats 1000000 in
theorem slIndex_any {A : Option Addr} {n c : Nat} (l : List (List UInt8)) (s : List UInt8) (w : World) (hr : Rd w A (l.map sv)) (hn : l.length = n) (hb : n ≤ 9223372036854775807) :
    Calls Tryd.prog 46 #[.slice A n c, .string ⟨s.toArray⟩] w (PlaceIs l s w) := by
  have HR := Lib.hid hr
  have HN := Lib.hid hn
  generalize hbs : (⟨s.toArray⟩ : ByteArray) = bs
  have HBS := Lib.hid hbs
  clear hr hn hbs
  go_enter Tryd.func46, Tryd.ntmps46
  go_wp2_with fail
  go_loop [5, 8] (fun _ i => ∃ k : Nat, k ≤ n ∧ i = .int .i64 (k : Int) ∧ Hid (∀ (j : Nat) (x : List UInt8), j < k → l[j]? = some x → x ≠ s)) (fun _ i => n - (intOf i).toNat)
  case atStart => exact ⟨0, by omega, rfl, Lib.hid (fun _ _ hj => absurd hj (Nat.not_lt_zero _))⟩
  case round =>
    obtain ⟨k, hk, rfl, hall⟩ := hrel
    by_cases hlt : k < n
    · obtain ⟨x, hx⟩ : ∃ x, l[k]? = some x := ⟨_, List.getElem?_eq_getElem (by rw [HN.out]; exact hlt)⟩
      obtain ⟨b, off, rfl, hc⟩ := HR.out.scell hx
      have HX := Lib.hid hx
      have HEQ := Lib.hid (eq_sv s x)
      rw [HBS.out] at HEQ
      generalize (⟨x.toArray⟩ : ByteArray) = bx at hc HEQ
      clear hx
      by_cases he : x = s
      · have h1 : (bs.toList == bx.toList) = true := by rw [HEQ.out, he]; simp
        have HS := Lib.hid he
        clear he
        go_wp2_with fail
        go_ret
        exact ⟨(k : Int), rfl, rfl, .inr ⟨k, rfl, by rw [HX.out, HS.out]⟩⟩
      · have h1 : (bs.toList == bx.toList) = false := by rw [HEQ.out]; simp; exact fun e => he e.symm
        have HS := Lib.hid he
        clear he
        go_wp2_with fail
        go_round
        case rel => exact ⟨k + 1, by omega, by go_num, Lib.hid (fun j y hj hy => by
          rcases Nat.lt_or_ge j k with h | h
          · exact hall.out j y h hy
          · obtain rfl : j = k := by omega
            rw [HX.out] at hy
            injection hy with hy
            rw [← hy]; exact HS.out)⟩
        case measure => simp [intOf]; omega
    · go_wp2_with fail
      go_ret
      exact ⟨-1, rfl, rfl, .inl ⟨rfl, fun hm => by
        obtain ⟨j, hj⟩ := List.mem_iff_getElem?.1 hm
        exact hall.out j s (by have := (List.getElem?_eq_some_iff.1 hj).1; have := HN.out; omega) hj rfl⟩⟩
theorem slContains_any {A : Option Addr} {n c : Nat} (l : List (List UInt8)) (s : List UInt8) (w : World) (hr : Rd w A (l.map sv)) (hn : l.length = n) (hb : n ≤ 9223372036854775807) :
    Calls Tryd.prog 34 #[.slice A n c, .string ⟨s.toArray⟩] w fun e w' => e = .returned (.bool (inL l s)) ∧ w = w' := by
  have HI := Lib.hid (slIndex_any (c := c) l s w hr hn hb)
  generalize hbs : (⟨s.toArray⟩ : ByteArray) = bs at *
  clear hr hn hbs
  go_enter Tryd.func34, Tryd.ntmps34
  go_wp2_with fail
  refine HI.out.mono ?_
  rintro e w1 ⟨i, rfl, rfl, hi⟩
  rcases hi with ⟨rfl, hno⟩ | ⟨k, rfl, hk⟩
  · have HE : Hid (false = inL l s) := Lib.hid (by unfold inL; simp [hno])
    clear hno
    go_wp2_with fail
    go_ret
    exact ⟨ret_bool HE.out, rfl⟩
  · have HE : Hid (true = inL l s) := Lib.hid (by unfold inL; simp [List.mem_of_getElem? hk])
    clear hk
    have k0 : (0 : Int) ≤ (k : Int) := by omega
    go_wp2_with fail
    go_ret
    exact ⟨ret_bool HE.out, rfl⟩
/-! ### Twice -/
def dblL (l : List (List UInt8)) : Bool := !decide l.Nodup
theorem take_snocS {α : Type} {s : List α} {i : Nat} {c : α} (h : s[i]? = some c) : s.take (i + 1) = s.take i ++ [c] := by rw [List.take_add_one, h]; rfl
theorem nodup_snoc {l : List (List UInt8)} {x : List UInt8} : (l ++ [x]).Nodup ↔ l.Nodup ∧ x ∉ l := by
  rw [List.nodup_append]
  constructor
  · rintro ⟨h1, _, h3⟩
    exact ⟨h1, fun hm => h3 x hm x (List.mem_singleton_self _) rfl⟩
  · rintro ⟨h1, h2⟩
    refine ⟨h1, by simp, fun a ha b hb e => ?_⟩
    rw [List.mem_singleton.1 hb] at e
    exact h2 (e ▸ ha)
theorem nodup_take_of {l : List (List UInt8)} (h : l.Nodup) (i : Nat) : (l.take i).Nodup := h.sublist (List.take_sublist _ _)
theorem dbl_yes {l : List (List UInt8)} {i : Nat} {x : List UInt8} (h : l[i]? = some x) (hi : inL (l.take i) x = true) : dblL l = true := by
  unfold dblL
  have : ¬ l.Nodup := fun hn => by
    have h2 := nodup_take_of hn (i + 1)
    rw [take_snocS h, nodup_snoc] at h2
    exact h2.2 (of_decide_eq_true hi)
  simp [this]
theorem nodup_step {l : List (List UInt8)} {i : Nat} {x : List UInt8} (h : l[i]? = some x) (hn : (l.take i).Nodup) (hi : inL (l.take i) x = false) : (l.take (i + 1)).Nodup := by
  rw [take_snocS h, nodup_snoc]
  exact ⟨hn, of_decide_eq_false hi⟩
theorem dbl_no {l : List (List UInt8)} {i : Nat} (hi : l.length ≤ i) (h : (l.take i).Nodup) : dblL l = false := by
  rw [List.take_of_length_le hi] at h
  unfold dblL
  simp [h]
theorem Rd.takeS {w : World} {A : Option Addr} {l : List (List UInt8)} (h : Rd w A (l.map sv)) (i : Nat) : Rd w A ((l.take i).map sv) := fun hp => by
  rw [List.length_map, List.length_take] at hp
  obtain ⟨b, off, hA, hb, hc⟩ := h (by rw [List.length_map]; omega)
  refine ⟨b, off, hA, hb, fun j u hu => hc j u ?_⟩
  rw [List.map_take] at hu
  rw [List.getElem?_take] at hu
  split at hu
  · exact hu
  · cases hu
/-! ### Lists, one behind the other -/
/-- A slice that lies somewhere: where, its room, its texts. -/
abbrev PartT := Option Addr × Nat × List (List UInt8)
def partV (x : PartT) : Value := .slice x.1 x.2.2.length x.2.1
def catP (L : List PartT) : List (List UInt8) := L.flatMap (·.2.2)
def PartsIn (w : World) (L : List PartT) : Prop := ∀ x ∈ L, Rd w x.1 (x.2.2.map sv)
theorem PartsIn.below {w w' : World} {L : List PartT} (h : PartsIn w L) (hb : Below w.heap.size w w') : PartsIn w' L := fun x hx => (h x hx).below hb
theorem catP_snoc {L : List PartT} {k : Nat} {x : PartT} (h : L[k]? = some x) : catP (L.take (k + 1)) = catP (L.take k) ++ x.2.2 := by
  rw [take_snocS h]; unfold catP; rw [List.flatMap_append]; simp
theorem catP_le (L : List PartT) (k : Nat) : (catP (L.take k)).length ≤ (catP L).length := by
  conv => rhs; rw [← List.take_append_drop k L]
  unfold catP
  rw [List.flatMap_append, List.length_append]
  omega
def CatN (w : World) (L : List PartT) (k : Nat) (v : Value) (wr : World) : Prop :=
  ∃ A c, v = .slice A (catP (L.take k)).length c ∧ wr.ownsRow w.heap.size 9 1 (.slice A (catP (L.take k)).length c) (catP (L.take k)).length ((catP (L.take k)).map sv) ∧ Below w.heap.size w wr
end Go.Proofs.YtcodncddaemhlaaDoor

/- Contract: Close of package reach. The rows are below 2^64; the table of math/bits lies. -/
import Derived.Test.YtonmkmghpiagjaaDoorReach5
namespace Go.Proofs.YtonmkmghpiagjaaDoor
open Go.RowKit

/-- Every row closed. -/
def closed (l : List Nat) : List Nat := l.map fun s => reachD l s (-1)
theorem closed_len (l : List Nat) : (closed l).length = l.length := by unfold closed; simp
theorem closed_take (l : List Nat) (k : Nat) (hk : k < l.length) : (closed l).take (k + 1) = (closed l).take k ++ [reachD l (rowAt l k) (-1)] := by
  rw [take_snoc (closed l) 0 k (by rw [closed_len]; exact hk)]
  unfold closed rowAt
  simp [hk]
theorem rowAt_closed (l : List Nat) (k : Nat) (hk : k < l.length) : rowAt (closed l) k = reachD l (rowAt l k) (-1) := by
  unfold closed rowAt
  simp [hk]
theorem pClose_bad {A : Option Addr} {n c : Nat} (l : List Nat) (w : World) (h1 : Rd w A (l.map uv)) (hl : l.length = n) (hnb : n ≤ 9223372036854775807) (hb : Rows64 l) (hf : faultOf l [] ≠ 0) :
    Calls Tryd.prog 106 #[.slice A n c] w fun e w' => e = .returned (.tuple #[.slice none 0 0, .int .i64 (faultOf l [])]) ∧ w = w' := by
  have hz := fault_ne hf
  have H1 := Lib.hid h1
  have HL := Lib.hid hl
  have HB := Lib.hid hb
  clear h1 hl hb hf
  go_enter Tryd.func106, Tryd.ntmps106
  go_wp2_with fail
  refine (pCheck_any l _ H1.out HL.out hnb HB.out).mono ?_
  rintro e w' ⟨rfl, rfl⟩
  go_wp2_with fail
  go_ret2
  exact ⟨rfl, rfl⟩
theorem pClose_good {A : Option Addr} {n c : Nat} (l : List Nat) (w : World) (h1 : Rd w A (l.map uv)) (hl : l.length = n) (hnb : n ≤ 9223372036854775807) (hb : Rows64 l) (hf : faultOf l [] = 0) (ht : Tab w) :
    Calls Tryd.prog 106 #[.slice A n c] w (SlErrPost 23 n ((closed l).map uv) 0 w) := by
  have HF := Lib.hid hf
  have HG := Lib.hid (faultOf_ok hb (by simp) hf).1
  have hn : n ≤ 64 := by have := HG.out.1; omega
  have H1 := Lib.hid h1
  have HL := Lib.hid hl
  have HB := Lib.hid hb
  have HT := Lib.hid ht
  clear h1 hl hb hf ht
  go_enter Tryd.func106, Tryd.ntmps106
  go_wp2_with fail
  refine (pCheck_any l _ H1.out HL.out hnb HB.out).mono ?_
  rintro e w' ⟨rfl, rfl⟩
  rw [HF.out]
  go_wp2_with fail
  go_loopw [5, 7, 15] (fun v _ i wr => ∃ k A2 c2, k ≤ n ∧ i = .int .i64 ((k : Nat) : Int) ∧ v = .slice A2 k c2 ∧ Hid (wr.ownsRow w.heap.size 23 1 (.slice A2 k c2) k (((closed l).take k).map uv)) ∧ Hid (Below w.heap.size w wr)) (fun _ _ i _ => n - (intOf i).toNat)
  case atStart => exact ⟨0, none, 0, by omega, rfl, rfl, Lib.hid (World.ownsRow_nil _ _ _ _), Lib.hid (Below.refl _ _)⟩
  case round =>
    obtain ⟨k, A2, c2, hk, rfl, rfl, hown, hbw⟩ := hrel
    by_cases hlt : k < n
    · have HR := Lib.hid (H1.out.below hbw.out)
      have hkl : k < l.length := by rw [HL.out]; exact hlt
      have HC := Lib.hid (closed_take l k hkl)
      have HIN : Hid (InRows l (rowAt l k)) := Lib.hid (fun j hj => HG.out.2 k j hj)
      have hbs := hbw.out.size
      have HTW := Lib.hid (HT.out.below hbw.out)
      obtain ⟨b, o, rfl, e1⟩ := HR.out.set hkl
      clear hkl
      go_wp2_with (first | (go_at_call 134; refine (from_any l _ (-1) _ HR.out HL.out HG.out HIN.out HTW.out (by decide) (by decide)).mono ?_; rintro e w' ⟨rfl, rfl⟩) | (at_builtin; refine wpList_push elU64 wr _ _ w.heap.size A2 k c2 _ _ hown.out rfl hbs (by omega) (by omega) rfl rfl rfl rfl ?_; intro A' c' w1 hown1 hb1))
      go_roundw
      case rel => exact ⟨k + 1, A', c', by omega, by go_num, rfl, Lib.hid (by rw [HC.out, List.map_append]; exact hown1), Lib.hid (hbw.out.trans hb1)⟩
      case measure => simp [intOf]; omega
    · obtain rfl : k = n := by omega
      have HE : Hid ((closed l).take k = closed l) := Lib.hid (List.take_of_length_le (by rw [closed_len, HL.out]; omega))
      go_wp2
      go_ret2
      exact ⟨_, _, rfl, by rw [← HE.out]; exact hown.out, hbw.out⟩
end Go.Proofs.YtonmkmghpiagjaaDoor

/- Contracts: slices.Equal of two lists that are one; slices.Clone at texts. Lengths below 2^40. -/
import Derived.Test.YtiechbaknolimaaDoorName5
import Derived.WalkSpells
import Derived.WalkLawsBesides
import Derived.BigQuiet
import Derived.Deep.QuietTactic
namespace Go.Proofs.YtiechbaknolimaaDoor
open Go.RowKit

theorem own_empty (w : World) (e : TypeId) : (w.alloc (.cells #[] e)).ownsRow w.heap.size e 1 (.slice (some ⟨w.heap.size, 0, none⟩) 0 0) 0 [] := World.ownsRow_made w #[] 0 (Nat.le_refl _) (Nat.zero_le _) rfl
set_option maxHeartbeats 1000000 in
theorem sClone_any {A : Option Addr} {n c : Nat} (l : List (List UInt8)) (w : World) (hr : Rd w A (l.map sv)) (hn : l.length = n) (hb : n ≤ 1099511627776) :
    Calls Tryd.prog 32 #[.slice A n c] w fun e w' => ∃ A' c', e = .returned (.slice A' n c') ∧ w'.ownsRow w.heap.size 9 1 (.slice A' n c') n (l.map sv) ∧ Below w.heap.size w w' := by
  have HR := Lib.hid hr
  have HN := Lib.hid hn
  clear hr hn
  cases A with
  | none =>
    have hl : l = [] := List.map_eq_nil_iff.1 (rd_none HR.out)
    have h0 : n = 0 := by rw [← HN.out, hl]; rfl
    subst h0
    subst hl
    have hnil := fun w => Lib.run_eql_slice_nil (P := Tryd.prog) w 22 9 none 0 c 0 0 Tryd.underlying22
    go_enter Tryd.func32, Tryd.ntmps32
    go_wp2_with fail
    go_ret
    exact ⟨none, _, rfl, World.ownsRow_nil _ _ _ _, Below.refl _ _⟩
  | some a =>
    have hnil := fun w => Lib.run_eql_slice_nil (P := Tryd.prog) w 22 9 (some a) n c 0 0 Tryd.underlying22
    go_enter Tryd.func32, Tryd.ntmps32
    go_wp2_with (at_builtin; refine wpList_cat elStr (w.alloc (.cells #[] 9)) _ _ w.heap.size _ 0 0 [] (some a) n c (l.map sv) (own_empty w _) (HR.out.alloc _) (by rw [List.length_map]; exact HN.out) (sv_one l) (by simp) (by omega) (by omega) rfl rfl rfl rfl ?_; intro A' c' w5 hown5 hb5)
    rw [Nat.zero_add, List.nil_append] at hown5
    have HO := Lib.hid hown5
    have HB := Lib.hid ((below_new (Below.refl w.heap.size w) (.cells #[] 9)).trans hb5)
    clear hown5 hb5
    go_wp2_with fail
    go_ret
    exact ⟨A', c', rfl, HO.out, HB.out⟩
end Go.Proofs.YtiechbaknolimaaDoor

/- Package knot: the walker's cells, read and written. No condition. -/
import Derived.Test.YtonmkmghpiagjaaDoorKnot1
import Derived.Test.YtonmkmghpiagjaaDoorOrd
import Derived.Test.YtonmkmghpiagjaaDoorKnotIx
namespace Go.Proofs.YtonmkmghpiagjaaDoor
open Go.RowKit

def boxV (bM bL : Nat) (A : Option Addr) (n c : Nat) (S : Option Addr) (k cS on now : Nat) (O : Option Addr) (q cO : Nat) : List Value :=
  [.slice A n c, .slice (some ⟨bM, 0, none⟩) n n, .slice (some ⟨bL, 0, none⟩) n n, .slice S k cS, .int .u64 (on : Int), .int .i64 (now : Int), .slice O q cO]
/-- A state of the walk as it lies in memory. -/
def KW (W0 w : World) (B BW bM bL : Nat) (A : Option Addr) (n c : Nat) (t : Tj) (S O : Option Addr) : Prop :=
  ∃ cS cO, KR W0 w B BW bM bL (boxV bM bL A n c S t.stk.length cS t.on t.now O t.out.length cO) n (t.met.map nv) (t.low.map nv) S t.stk.length cS (t.stk.map nv) O t.out.length cO (t.out.map uv)
def WalkEnd (W0 w : World) (B BW bM bL : Nat) (A : Option Addr) (n c : Nat) (S O : Option Addr) (t' : Tj) (e : Ending) (w' : World) : Prop :=
  e = .returned (.tuple #[]) ∧ ∃ S' O', KW W0 w' B BW bM bL A n c t' S' O' ∧ KF BW bM bL w w' S O S' O'
theorem bit1_raw (s k : Nat) (hs : B64 s) : (bits .and .u64 ((s : Int) / 2 ^ k) 1 == 1) = s.testBit k := by
  have hc : (s : Int) / 2 ^ k = ((s / 2 ^ k : Nat) : Int) := by simp
  have hb : s / 2 ^ k < 18446744073709551616 := Nat.lt_of_le_of_lt (Nat.div_le_self _ _) hs
  have h := u64_and_nat (s / 2 ^ k) 1 hb (by decide)
  have h' : bits .and .u64 ((s : Int) / 2 ^ k) 1 = ((s / 2 ^ k &&& 1 : Nat) : Int) := by rw [hc]; exact h
  rw [h', Nat.and_one_is_mod, Nat.testBit_eq_decide_div_mod_eq, Bool.eq_iff_iff]
  simp
  omega
theorem min_raw (a v : Nat) : min (a : Int) (v : Int) = ((min a v : Nat) : Int) := by omega
theorem some_slice {w : World} {base : Nat} {e : TypeId} {n c : Nat} {A : Option Addr} {xs : List Value} (h : w.ownsRow base e 1 (.slice A n c) n xs) (hn : 0 < n) : ∃ g, A = some ⟨g, 0, none⟩ ∧ n ≤ c := by
  rcases h.2 with ⟨_, h0⟩ | ⟨g, cap, cur, hv, _, _, hc, _⟩
  · omega
  · injection hv with hA _ hcc
    exact ⟨g, hA, by omega⟩
section
variable {W0 w w' : World} {B BW bM bL : Nat} {bx : List Value} {n : Nat} {ms ls : List Nat} {S : Option Addr} {k cS : Nat} {ss : List Value} {O : Option Addr} {q cO : Nat} {os : List Value}
theorem KR.metCell (h : KR W0 w B BW bM bL bx n (ms.map nv) (ls.map nv) S k cS ss O q cO os) {i : Nat} (hi : i < n) : w.cell? ⟨bM, i, none⟩ = some (.int .i64 (ms.getD i 0 : Nat)) := by
  have hl := own_len h.met
  rw [List.length_map] at hl
  rw [h.met.cellAt i (by omega), nat_get (by omega)]
  rfl
theorem KR.lowCell (h : KR W0 w B BW bM bL bx n (ms.map nv) (ls.map nv) S k cS ss O q cO os) {i : Nat} (hi : i < n) : w.cell? ⟨bL, i, none⟩ = some (.int .i64 (ls.getD i 0 : Nat)) := by
  have hl := own_len h.low
  rw [List.length_map] at hl
  rw [h.low.cellAt i (by omega), nat_get (by omega)]
  rfl
theorem KR.met_set (h : KR W0 w B BW bM bL bx n (ms.map nv) (ls.map nv) S k cS ss O q cO os) (i v : Nat) {x : Int} (hx : x = (v : Int)) : KR W0 (w.setCell ⟨bM, i, none⟩ (.int .i64 x)) B BW bM bL bx n ((ms.set i v).map nv) (ls.map nv) S k cS ss O q cO os := by
  subst hx
  rw [List.map_set]
  exact h.setMet i (nv v)
theorem KR.low_set (h : KR W0 w B BW bM bL bx n (ms.map nv) (ls.map nv) S k cS ss O q cO os) (i v : Nat) {x : Int} (hx : x = (v : Int)) : KR W0 (w.setCell ⟨bL, i, none⟩ (.int .i64 x)) B BW bM bL bx n (ms.map nv) ((ls.set i v).map nv) S k cS ss O q cO os := by
  subst hx
  rw [List.map_set]
  exact h.setLow i (nv v)
theorem KR.pushS_nv {L : List Nat} (h : KR W0 w B BW bM bL bx n (ms.map nv) (ls.map nv) S k cS (L.map nv) O q cO os) {S' : Option Addr} {c' i : Nat} (hown : w'.ownsRow B 3 1 (.slice S' (k + 1) c') (k + 1) (L.map nv ++ [nv i])) (hg : w.grownBy w' (Value.slice S k cS).ownBlock)
    (hn : (Value.slice S' (k + 1) c').ownBlock = (Value.slice S k cS).ownBlock ∨ (Value.slice S' (k + 1) c').ownBlock = some w.heap.size) : KR W0 w' B BW bM bL bx n (ms.map nv) (ls.map nv) S' (k + 1) c' ((L ++ [i]).map nv) O q cO os := by
  rw [List.map_append]
  exact h.pushS hown hg hn
theorem KR.pushO_uv {L : List Nat} (h : KR W0 w B BW bM bL bx n (ms.map nv) (ls.map nv) S k cS ss O q cO (L.map uv)) {O' : Option Addr} {c' i : Nat} (hown : w'.ownsRow B 23 1 (.slice O' (q + 1) c') (q + 1) (L.map uv ++ [uv i])) (hg : w.grownBy w' (Value.slice O q cO).ownBlock)
    (hn : (Value.slice O' (q + 1) c').ownBlock = (Value.slice O q cO).ownBlock ∨ (Value.slice O' (q + 1) c').ownBlock = some w.heap.size) : KR W0 w' B BW bM bL bx n (ms.map nv) (ls.map nv) S k cS ss O' (q + 1) c' ((L ++ [i]).map uv) := by
  rw [List.map_append]
  exact h.pushO hown hg hn
theorem KR.alloc (h : KR W0 w B BW bM bL bx n (ms.map nv) (ls.map nv) S k cS ss O q cO os) (o : Obj) : KR W0 (w.alloc o) B BW bM bL bx n (ms.map nv) (ls.map nv) S k cS ss O q cO os := h.below ((Below.refl _ _).alloc (Nat.le_refl _) o)
theorem KF.alloc {S' O' : Option Addr} (h : KF BW bM bL w w' S O S' O') (o : Obj) : KF BW bM bL w (w'.alloc o) S O S' O' := h.trans (KF.below ((Below.refl _ _).alloc (Nat.le_refl _) o))
end
end Go.Proofs.YtonmkmghpiagjaaDoor

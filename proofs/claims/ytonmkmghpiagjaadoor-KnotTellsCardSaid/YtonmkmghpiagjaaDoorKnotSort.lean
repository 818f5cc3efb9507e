/- Package knot: sorting the parts by their least numbers; the sort's comparison. The table of math/bits lies. -/
import Derived.Test.YtonmkmghpiagjaaDoorKnotPlain2
import Derived.Test.YtonmkmghpiagjaaDoorOrd
import Derived.Test.YtonmkmghpiagjaaDoorSortOwn
import Derived.Test.YtonmkmghpiagjaaDoorShelf
namespace Go.Proofs.YtonmkmghpiagjaaDoor
open Go.RowKit Go.Sort Go.Lib

theorem endO_low {l : List Nat} (hg : Good l) {a b : Nat} (ha : a ∈ endO l) (hb : b ∈ endO l) (h : low a = low b) : a = b := by
  have ea := endO_b64 hg ha
  have eb := endO_b64 hg hb
  have h1 := low_bit ea.1 ea.2
  have h2 := low_bit eb.1 eb.2
  obtain ⟨x, hx, rfl⟩ := (parts_mem hg a).1 ha
  obtain ⟨y, hy, rfl⟩ := (parts_mem hg b).1 hb
  have hlt : low (tiedS l x) < l.length := rch_lt hg hx ((tiedS_bit hg hx _).1 h1).1
  rw [← h] at h2
  rw [tied_eq hg hx hlt h1, tied_eq hg hy hlt h2]
/-- A part that the walk found. -/
def Prt (l : List Nat) : Type := { s : Nat // s ∈ endO l }
def prtV {l : List Nat} (x : Prt l) : Value := .int .u64 (x.1 : Int)
def prtC {l : List Nat} (x y : Prt l) : Int := (low x.1 : Int) - (low y.1 : Int)
theorem prt_lt {l : List Nat} (x y : Prt l) : ltOf prtC x y = decide (low x.1 < low y.1) := by
  unfold ltOf prtC
  rw [Bool.eq_iff_iff, decide_eq_true_eq, decide_eq_true_eq]
  omega
theorem prt_swo {l : List Nat} : SWO (ltOf (prtC (l := l))) where
  irrefl x := by rw [prt_lt]; simp
  trans x y z h1 h2 := by rw [prt_lt] at *; simp at *; omega
  ntrans x y z h1 h2 := by rw [prt_lt] at *; simp at *; omega
theorem prt_tot {l : List Nat} (hg : Good l) (x y : Prt l) (h1 : ltOf prtC x y = false) (h2 : ltOf prtC y x = false) : x = y := by
  rw [prt_lt] at h1 h2
  simp at h1 h2
  exact Subtype.ext (endO_low hg x.2 y.2 (by omega))
def prts (l : List Nat) : List (Prt l) := (endO l).attach
theorem prts_len (l : List Nat) : (prts l).length = (endO l).length := List.length_attach
theorem prts_val (l : List Nat) : (prts l).map (fun x => x.1) = endO l := List.attach_map_subtype_val _
theorem prtV_map {l : List Nat} (xs : List (Prt l)) : xs.map prtV = (xs.map (fun x => x.1)).map uv := by rw [List.map_map]; rfl
theorem prt_sorted {l : List Nat} (hg : Good l) : ((prts l).mergeSort fun x y => !(ltOf prtC) y x).map (fun x => x.1) = tiedParts l := by
  refine sorted_parts hg ?_ ?_
  · have h := (List.mergeSort_perm (prts l) fun x y => !(ltOf prtC) y x).map (fun x => x.1)
    rw [prts_val] at h
    exact h
  · rw [List.pairwise_map]
    have h := List.pairwise_mergeSort (le := fun x y : Prt l => !(ltOf prtC) y x) (fun a b c h1 h2 => by
      rw [prt_lt] at *
      simp at *
      omega) (fun a b => by
      rw [prt_lt, prt_lt]
      simp
      omega) (prts l)
    refine h.imp (fun {a b} hab => ?_)
    rw [prt_lt] at hab
    simp at hab
    exact hab
theorem nextN_low {s : Nat} (hs : B64 s) (h0 : s ≠ 0) : nextN s 0 = low s := by
  unfold nextN
  rw [fromS_zero hs, if_neg h0]
theorem prtCmp_any (s t : Nat) (hs : B64 s) (ht : B64 t) (h0 : s ≠ 0) (h1 : t ≠ 0) (w : World) (hT : Tab w) :
    Calls Tryd.prog 131 #[.int .u64 (s : Nat), .int .u64 (t : Nat)] w fun e w' => e = .returned (.int .i64 ((low s : Int) - (low t : Int))) ∧ w = w' := by
  have HS := Lib.hid hs
  have HT := Lib.hid ht
  have HTB := Lib.hid hT
  have HN1 := Lib.hid (nextN_low hs h0)
  have HN2 := Lib.hid (nextN_low ht h1)
  have l1 := low_lt hs h0
  have l2 := low_lt ht h1
  clear hs ht h0 h1 hT
  go_enter Tryd.func131, Tryd.ntmps131
  go_wp2_with fail
  refine (next_any s 0 HS.out _ HTB.out).mono ?_
  rintro e w' ⟨rfl, rfl⟩
  rw [HN1.out]
  go_wp2_with fail
  refine (next_any t 0 HT.out _ HTB.out).mono ?_
  rintro e w' ⟨rfl, rfl⟩
  rw [HN2.out]
  go_wp2_with fail
  go_ret
  exact ⟨rfl, rfl⟩
theorem prtCmp_lays {l : List Nat} [Inhabited (Prt l)] (hg : Good l) {g : Nat} (w : World) (hW : ∀ q (os : Array Obj) (ts : List (Prt l)), ts.length = (prts l).length → Tab (sortWorld prtV w g 0 q ts.toArray os)) :
    CmpLays1 Tryd.prog 131 #[] prtV (prtC (l := l)) g 0 (prts l).toArray.size w := by
  intro q os dk hdk x y
  have hb := hW q os dk.toList (by simpa using hdk)
  have hdk' : dk.toList.toArray = dk := by simp
  rw [hdk'] at hb
  have hx := endO_b64 hg x.2
  have hy := endO_b64 hg y.2
  refine (prtCmp_any x.1 y.1 hx.1 hy.1 hx.2 hy.2 _ hb).mono ?_
  rintro e w' ⟨he, hw⟩
  exact ⟨he, 0, #[], by rw [← hw]; simp [World.drewN, grow]⟩
end Go.Proofs.YtonmkmghpiagjaaDoor

/- Contract: the reference's Split; the lines that it tells. -/
import Derived.Test.YtbgcbigplegpmaaDoorLn10
import Derived.Test.YtbgcbigplegpmaaDoorLn5
namespace Go.Proofs.YtbgcbigplegpmaaDoor
open Go.RowKit

def spStep (c : UInt8) (x : List (List UInt8) × List UInt8) (d : UInt8) : List (List UInt8) × List UInt8 := if d = c then (x.1 ++ [x.2], []) else (x.1, x.2 ++ [d])
def spF (c : UInt8) (s : List UInt8) : List (List UInt8) × List UInt8 := s.foldl (spStep c) ([], [])
theorem spF_snoc (c : UInt8) (s : List UInt8) (d : UInt8) : spF c (s ++ [d]) = spStep c (spF c s) d := by unfold spF; rw [List.foldl_append]; rfl
def spEnd (x : List (List UInt8) × List UInt8) : List (List UInt8) := if x.2 = [] then x.1 else x.1 ++ [x.2]
theorem spF_lines : ∀ (s : List UInt8) (X : List (List UInt8)) (U : List UInt8), spEnd (s.foldl (spStep 10) (X, U)) = X ++ (if U ++ s = [] then [] else (U ++ frontN s) :: linesN (backN s))
  | [], X, U => by
    unfold spEnd
    simp only [List.foldl_nil, List.append_nil]
    by_cases hU : U = []
    · simp [hU]
    · simp [hU, frontN, backN, linesN_nil]
  | d :: t, X, U => by
    rw [List.foldl_cons]
    by_cases h : d = 10
    · subst h
      have e : spStep 10 (X, U) 10 = (X ++ [U], []) := by unfold spStep; rw [if_pos rfl]
      rw [e, spF_lines t (X ++ [U]) []]
      have hf : frontN (10 :: t) = [] := by rw [frontN, if_pos rfl]
      have hb : backN (10 :: t) = t := by rw [backN, if_pos rfl]
      rw [hf, hb, if_neg (by simp : ¬ U ++ 10 :: t = [])]
      by_cases ht : t = []
      · subst ht
        simp [linesN_nil]
      · rw [if_neg (by simpa using ht), linesN_cons ht]
        simp
    · have e : spStep 10 (X, U) d = (X, U ++ [d]) := by unfold spStep; rw [if_neg h]
      rw [e, spF_lines t X (U ++ [d])]
      have hf : frontN (d :: t) = d :: frontN t := by rw [frontN, if_neg h]
      have hb : backN (d :: t) = backN t := by rw [backN, if_neg h]
      rw [hf, hb, if_neg (by simp), if_neg (by simp)]
      simp
theorem lines_sp (s : List UInt8) : spEnd (spF 10 s) = linesN s := by
  unfold spF
  rw [spF_lines s [] []]
  by_cases h : s = []
  · subst h; simp [linesN_nil]
  · rw [linesN_cons h, if_neg (by simpa using h)]
    simp
/-- An owned row's last cell, read and written. -/
theorem own_last {w : World} {B n c : Nat} {A : Option Addr} {X : List (List UInt8)} {U : List UInt8} (h : w.ownsRow B 9 1 (.slice A (n + 1) c) (n + 1) ((X ++ [U]).map svL)) (hX : X.length = n) :
    ∃ g, A = some ⟨g, 0, none⟩ ∧ B ≤ g ∧ w.cell? ⟨g, n, none⟩ = some (svL U) ∧ w.frozen? ⟨g, n, none⟩ = false ∧
      ∀ V : List UInt8, (w.setCell ⟨g, n, none⟩ (svL V)).ownsRow B 9 1 (.slice (some ⟨g, 0, none⟩) (n + 1) c) (n + 1) ((X ++ [V]).map svL) := by
  obtain ⟨hl, h2⟩ := h
  rcases h2 with ⟨_, h0⟩ | ⟨g, cap, cur, hv, hg, hh, hnc, hcm, hsz, ht⟩
  · omega
  · injection hv with hA _ hc
    subst hA hc
    have hn1 : n < cur.size := by omega
    have hx : (cur.toList.take ((n + 1) * 1))[n]? = some (svL U) := by
      rw [ht, List.getElem?_map, List.getElem?_append_right (by omega), hX, Nat.sub_self]
      rfl
    rw [List.getElem?_take, if_pos (by omega)] at hx
    have hx' : cur[n]? = some (svL U) := by rw [Array.getElem?_toList] at hx; exact hx
    refine ⟨g, rfl, hg, by simp [World.cell?, hh, hx'], by simp [World.frozen?, hh], fun V => ⟨by simp [hX], .inr ⟨g, c, cur.set n (svL V) hn1, rfl, hg, ?_, hnc, hcm, by simp [hsz], ?_⟩⟩⟩
    · rw [heap_setCell_same w g n cur 9 (svL V) hh]
      congr 2
      rw [Array.setIfInBounds_def, dif_pos hn1]
    · rw [Array.toList_set, List.take_set, ht]
      rw [List.map_append, List.map_append, List.set_append_right _ _ (by simp; omega)]
      simp [hX]
def SpPost (c : UInt8) (s : List UInt8) (w : World) (e : Ending) (w' : World) : Prop :=
  ∃ g k X U, spF c s = (X, U) ∧ e = .returned (.slice (some ⟨g, 0, none⟩) (X.length + 1) k) ∧ w'.ownsRow w.heap.size 9 1 (.slice (some ⟨g, 0, none⟩) (X.length + 1) k) (X.length + 1) ((X ++ [U]).map svL) ∧ X.length ≤ s.length ∧ Below w.heap.size w w'
theorem own_one (w : World) : (w.alloc (.cells #[.string ⟨#[]⟩] 9)).ownsRow w.heap.size 9 1 (.slice (some ⟨w.heap.size, 0, none⟩) 1 1) 1 (([] ++ [[]] : List (List UInt8)).map svL) :=
  ⟨rfl, .inr ⟨w.heap.size, 1, #[.string ⟨#[]⟩], rfl, Nat.le_refl _, heap_alloc_new w _, Nat.le_refl _, by unfold maxLen; decide, rfl, rfl⟩⟩
set_option maxRecDepth 100000 in
set_option maxHeartbeats 2000000 in
theorem rSplit_any (s : List UInt8) (c : UInt8) (hl : s.length ≤ 1048576) (w : World) : Calls Tryd.prog 20 #[.string ⟨s.toArray⟩, .int .u8 (c.toNat : Int)] w (SpPost c s w) := by
  have HS := Lib.hid (strIsL s)
  generalize (⟨s.toArray⟩ : ByteArray) = b at *
  have hsz : b.size = s.length := HS.out.size
  have HSZ := Lib.hid hsz
  have hbs : b.size ≤ 1048576 := by omega
  have HOW := Lib.hid (own_one w)
  have HBW := Lib.hid (Below.alloc (Below.refl w.heap.size w) (Nat.le_refl _) (.cells #[.string ⟨#[]⟩] 9))
  clear hsz hl
  go_enter Tryd.func20, Tryd.ntmps20
  go_upto_region 2 with fail
  generalize w.alloc (.cells #[.string ⟨#[]⟩] 9) = w1 at *
  go_wp2_with fail
  go_loopw [5, 10] (fun x y wr => ∃ (i q k g : Nat) (X : List (List UInt8)) (U : List UInt8), x = .slice (some ⟨g, 0, none⟩) (q + 1) k ∧ y = .int .i64 (i : Int) ∧ i ≤ b.size ∧ q ≤ i ∧ U.length ≤ i ∧ Hid (X.length = q) ∧ Hid (spF c (s.take i) = (X, U)) ∧ Hid (wr.ownsRow w.heap.size 9 1 (.slice (some ⟨g, 0, none⟩) (q + 1) k) (q + 1) ((X ++ [U]).map svL)) ∧ Hid (Below w.heap.size w wr)) (fun _ y _ => b.size - (intOf y).toNat)
  case atStart => exact ⟨0, 0, 1, w.heap.size, [], [], rfl, rfl, by omega, by omega, by simp, Lib.hid rfl, Lib.hid rfl, HOW, HBW⟩
  case round =>
    obtain ⟨i, q, k, g, X, U, rfl, rfl, hi, hq, hU, HX, HF, HO, HB⟩ := hrel
    by_cases hlt : i < b.size
    · obtain ⟨d, hd⟩ : ∃ c, c = b[i] := ⟨_, rfl⟩
      have g0 : ∀ h, b[i]'h = d := fun _ => hd.symm
      have HC : Hid (s[i]? = some d) := Lib.hid (by rw [hd]; exact HS.out.at_ hlt)
      have hsg := ext_one HS.out HC.out
      have HF2 : Hid (spF c (s.take (i + 1)) = spStep c (X, U) d) := Lib.hid (by rw [take_snocL HC.out, spF_snoc, HF.out])
      have i0 : (i : Int) < (b.size : Int) := by omega
      have i1 : (i : Int) + 1 ≤ (b.size : Int) := by omega
      have i2 : 0 ≤ (i : Int) := by omega
      have i3 : 0 ≤ (i : Int) + 1 := by omega
      have hzz : w.heap.size ≤ wr.heap.size := HB.out.size
      clear hd
      by_cases hdc : d = c
      · have kd : ((d.toNat : Int) == (c.toNat : Int)) = true := by rw [hdc]; simp
        have HF3 : Hid (spF c (s.take (i + 1)) = (X ++ [U], [])) := Lib.hid (by rw [HF2.out]; unfold spStep; rw [if_pos hdc])
        have hqn : (q + 1 + 1) * 16 ≤ 140737488355328 := by omega
        clear hdc
        go_wp2_with (at_builtin; refine wpList_push elStrL wr _ _ w.heap.size (some ⟨g, 0, none⟩) (q + 1) k _ (.string ⟨#[]⟩) HO.out rfl hzz hqn (by omega) rfl rfl rfl rfl ?_; intro A' c' w5 hown5 hb5)
        have HO5 : Hid (w5.ownsRow w.heap.size 9 1 (.slice A' (q + 1 + 1) c') (q + 1 + 1) (((X ++ [U]) ++ [[]]).map svL)) := Lib.hid (by rw [List.map_append (l₂ := [[]])]; exact hown5)
        obtain ⟨g5, rfl⟩ : ∃ g5, A' = some ⟨g5, 0, none⟩ := by
          obtain ⟨g5, h, _⟩ := own_last HO5.out (by simp [HX.out])
          exact ⟨g5, h⟩
        exact ⟨⟨i + 1, q + 1, c', g5, X ++ [U], [], rfl, rfl, by omega, by omega, by simp, Lib.hid (by simp [HX.out]), HF3, HO5, Lib.hid (HB.out.trans hb5)⟩, measL hlt⟩
      · have kd : ((d.toNat : Int) == (c.toNat : Int)) = false := eqK hdc
        have HF3 : Hid (spF c (s.take (i + 1)) = (X, U ++ [d])) := Lib.hid (by rw [HF2.out]; unfold spStep; rw [if_neg hdc])
        obtain ⟨g', hg', hgB, hcl, hfz, hset⟩ := own_last HO.out HX.out
        injection hg' with hg'
        injection hg' with hg' _ _
        subst hg'
        have HSET := Lib.hid (hset (U ++ [d]))
        have hcat := Lib.hid (show (⟨U.toArray⟩ : ByteArray) ++ ⟨#[d]⟩ = ⟨(U ++ [d]).toArray⟩ from cat_bytesL U [d])
        have hus : (⟨U.toArray⟩ : ByteArray).size ≤ 1048577 := by show U.length ≤ _; omega
        have HBS := Lib.hid (HB.out.setCell (p := ⟨g, q, none⟩) hgB (svL (U ++ [d])))
        have hw1 : IntKind.i64.wrap (((q : Int) + 1) - 1) = (q : Int) := by rw [IntKind.wrap_i64]; omega
        have hw2 : IntKind.i64.wrap ((i : Int) + 1) = (i : Int) + 1 := by rw [IntKind.wrap_i64]; omega
        have hq1 : (q : Int) < (q : Int) + 1 := by omega
        have hq0 : 0 ≤ (q : Int) := by omega
        unfold svL at hcl HSET HBS
        generalize hbU : (⟨U.toArray⟩ : ByteArray) = bU at *
        rw [← hcat.out] at HSET HBS
        clear hdc hset hbU
        go_wp2_with fail
        go_region
        go_wp2_with fail
        exact ⟨⟨i + 1, q, k, g, X, U ++ [d], rfl, rfl, by omega, by omega, by simp; omega, HX, HF3, Lib.hid HSET.out, Lib.hid (Below.drew HBS.out)⟩, measL hlt⟩
    · obtain rfl : i = b.size := by omega
      have HFE : Hid (spF c s = (X, U)) := Lib.hid (by have h := HF.out; rwa [List.take_of_length_le (by rw [HSZ.out]; exact Nat.le_refl _)] at h)
      go_wp2_with fail
      go_ret
      refine ⟨g, k, X, U, HFE.out, by rw [HX.out]; rfl, by rw [HX.out]; exact HO.out, by rw [HX.out, ← HSZ.out]; exact hq, HB.out⟩
end Go.Proofs.YtbgcbigplegpmaaDoor

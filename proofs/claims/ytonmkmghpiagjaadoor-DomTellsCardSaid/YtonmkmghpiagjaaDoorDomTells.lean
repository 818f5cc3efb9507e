/- The law DomTells: its walk: for every list of rows and three numbers it returns true and leaves what was there. Conditions: sets below 2^64, a length below 2^63; the table of math/bits lies. -/
import Derived.Test.YtonmkmghpiagjaaDoorDom8
import Derived.Test.YtonmkmghpiagjaaDoorDom9
import Derived.Test.YtonmkmghpiagjaaDoorDom10
import Derived.Test.YtonmkmghpiagjaaDoorEqNv
namespace Go.Proofs.YtonmkmghpiagjaaDoor
open Go.RowKit

theorem dErr_ne {l : List Nat} {root : Int} (zs : List Int) (h : domErr l [root] ≠ 0) : domErr l (root :: zs) = domErr l [root] := by
  unfold domErr at h ⊢
  by_cases hf : faultOf l [] = 0
  · simp only [if_pos hf] at h ⊢
    cases hi : inRg l.length root with
    | true => simp [hi] at h
    | false => simp [hi]
  · simp only [if_neg hf]
theorem dErr_eq {l : List Nat} {root : Int} (zs : List Int) (h : domErr l [root] = 0) : domErr l (root :: zs) = domErr l zs := by
  unfold domErr at h ⊢
  by_cases hf : faultOf l [] = 0
  · simp only [if_pos hf] at h ⊢
    cases hi : inRg l.length root with
    | true => simp [hi]
    | false => simp [hi] at h
  · rw [if_neg hf] at h
    exact absurd h hf
/-- An error behind a first number that is in range is that of the first one that is none. -/
theorem dErr_two {l : List Nat} {a b : Int} (h : domErr l [b] ≠ 0) (h0 : faultOf l [] = 0) : domErr l [a, b] = domErr l [b] := by
  unfold domErr at h ⊢
  simp only [if_pos h0] at h ⊢
  cases hi : inRg l.length b with
  | true => simp [hi] at h
  | false => simp [hi]
theorem dErr_fault {l : List Nat} {zs : List Int} (h : domErr l zs = 0) : faultOf l [] = 0 := by
  unfold domErr at h
  by_cases hf : faultOf l [] = 0
  · exact hf
  · rw [if_neg hf] at h; exact h
/-- What the three calls tell, case by case. -/
def DomCase (l : List Nat) (n : Nat) (root a b : Int) (nd no : Nat) (xd xo : List Value) (ed eo eg : Int) (isb : Bool) : Prop :=
  (domErr l [root] ≠ 0 ∧ nd = 0 ∧ ed = domErr l [root] ∧ no = 0 ∧ eo = domErr l [root] ∧ isb = false ∧ eg = domErr l [root]) ∨
  (domErr l [root] = 0 ∧ nd = n ∧ ed = 0 ∧ ∃ r : Nat, root = (r : Int) ∧ r < n ∧ xd = (domRow l r n).map iw ∧
    ((domErr l [b] ≠ 0 ∧ no = 0 ∧ eo = domErr l [b] ∧ isb = false ∧ eg = domErr l [b]) ∨
     (domErr l [b] = 0 ∧ eo = 0 ∧ ∃ m : Nat, b = (m : Int) ∧ m < n ∧ no = (domC l r m).length ∧ xo = (domC l r m).map nv ∧
       ((domErr l [a] ≠ 0 ∧ isb = false ∧ eg = domErr l [a]) ∨
        (domErr l [a] = 0 ∧ eg = 0 ∧ ∃ k : Nat, a = (k : Int) ∧ k < n ∧ isb = (ruledBy l r m).testBit k)))))
section
variable {A : Option Addr} {n c : Nat} (l : List Nat) (w : World) (h1 : Rd w A (l.map uv)) (hl : l.length = n) (hnb : n ≤ 9223372036854775807) (hb : Rows64 l) (hT : Tab w) (root a b : Int)
include h1 hl hnb hb hT
theorem dom_calls : ∃ (nd no : Nat) (xd xo : List Value) (ed eo eg : Int) (isb : Bool), DomCase l n root a b nd no xd xo ed eo eg isb ∧
    (∀ W, Below w.heap.size w W → Calls Tryd.prog 42 #[.slice A n c, .int .i64 root] W (SlErrPost 3 nd xd ed W)) ∧
    (∀ W, Below w.heap.size w W → Calls Tryd.prog 43 #[.slice A n c, .int .i64 root, .int .i64 b] W (SlErrPost 3 no xo eo W)) ∧
    (∀ W, Below w.heap.size w W → Calls Tryd.prog 44 #[.slice A n c, .int .i64 root, .int .i64 a, .int .i64 b] W fun e w' => e = .returned (.tuple #[.bool isb, .int .i64 eg]) ∧ Below W.heap.size W w') := by
  have bad : ∀ {W : World} {err : Int} {e : Ending} {w' : World}, (e = .returned (.tuple #[.slice none 0 0, .int .i64 err]) ∧ Below W.heap.size W w') → SlErrPost 3 0 [] err W e w' := fun h => ⟨none, 0, h.1, World.ownsRow_nil _ _ _ _, h.2⟩
  by_cases hx : domErr l [root] = 0
  · have hf := dErr_fault hx
    obtain ⟨hg, hin⟩ := dErr_ok hb hx
    have hr0 := hin root (by simp)
    obtain ⟨r, rfl⟩ : ∃ r : Nat, root = (r : Int) := ⟨root.toNat, by omega⟩
    have hr : r < n := by omega
    have hD := fun W (hW : Below w.heap.size w W) => pDoms_good (c := c) l W (h1.below hW) hl hnb hb r hx (hT.below hW)
    by_cases hy : domErr l [b] = 0
    · have hm0 := (dErr_ok hb hy).2 b (by simp)
      obtain ⟨m, rfl⟩ : ∃ m : Nat, b = (m : Int) := ⟨b.toNat, by omega⟩
      have e2 : domErr l [(r : Int), (m : Int)] = 0 := by rw [dErr_eq _ hx]; exact hy
      have hO := fun W (hW : Below w.heap.size w W) => pOver_good (c := c) l W (h1.below hW) hl hnb hb r m e2 (hT.below hW)
      by_cases hz : domErr l [a] = 0
      · have hk0 := (dErr_ok hb hz).2 a (by simp)
        obtain ⟨k, rfl⟩ : ∃ k : Nat, a = (k : Int) := ⟨a.toNat, by omega⟩
        have e3 : domErr l [(r : Int), (k : Int), (m : Int)] = 0 := by rw [dErr_eq _ hx, dErr_eq _ hz]; exact hy
        have hR := fun W (hW : Below w.heap.size w W) => pRules_good (c := c) l W (h1.below hW) hl hnb hb r k m e3 (hT.below hW)
        exact ⟨n, _, _, _, 0, 0, 0, _, .inr ⟨hx, rfl, rfl, r, rfl, hr, rfl, .inr ⟨hy, rfl, m, rfl, by omega, rfl, rfl, .inr ⟨hz, rfl, k, rfl, by omega, rfl⟩⟩⟩, hD, hO, hR⟩
      · have e3 : domErr l [(r : Int), a, (m : Int)] = domErr l [a] := by rw [dErr_eq _ hx, dErr_ne _ hz]
        have hR := fun W (hW : Below w.heap.size w W) => pRules_bad (c := c) l W (h1.below hW) hl hnb hb r a m (by rw [e3]; exact hz)
        rw [e3] at hR
        exact ⟨n, _, _, _, 0, 0, _, false, .inr ⟨hx, rfl, rfl, r, rfl, hr, rfl, .inr ⟨hy, rfl, m, rfl, by omega, rfl, rfl, .inl ⟨hz, rfl, rfl⟩⟩⟩, hD, hO, hR⟩
    · have e2 : domErr l [(r : Int), b] = domErr l [b] := by rw [dErr_eq _ hx]
      have hO := fun W (hW : Below w.heap.size w W) => pOver_bad (c := c) l W (h1.below hW) hl hnb hb r b (by rw [e2]; exact hy)
      have e3 : domErr l [(r : Int), a, b] = domErr l [b] := by rw [dErr_eq _ hx]; exact dErr_two hy hf
      have hR := fun W (hW : Below w.heap.size w W) => pRules_bad (c := c) l W (h1.below hW) hl hnb hb r a b (by rw [e3]; exact hy)
      rw [e2] at hO
      rw [e3] at hR
      exact ⟨n, 0, _, [], 0, _, _, false, .inr ⟨hx, rfl, rfl, r, rfl, hr, rfl, .inl ⟨hy, rfl, rfl, rfl, rfl⟩⟩, hD, fun W hW => (hO W hW).mono fun e w' h => bad h, hR⟩
  · have hD := fun W (hW : Below w.heap.size w W) => pDoms_bad (c := c) l W (h1.below hW) hl hnb hb root hx
    have e2 := dErr_ne [b] hx
    have e3 := dErr_ne [a, b] hx
    have hO := fun W (hW : Below w.heap.size w W) => pOver_bad (c := c) l W (h1.below hW) hl hnb hb root b (by rw [e2]; exact hx)
    have hR := fun W (hW : Below w.heap.size w W) => pRules_bad (c := c) l W (h1.below hW) hl hnb hb root a b (by rw [e3]; exact hx)
    rw [e2] at hO
    rw [e3] at hR
    exact ⟨0, 0, [], [], _, _, _, false, .inl ⟨hx, rfl, rfl, rfl, rfl, rfl, rfl⟩, fun W hW => (hD W hW).mono fun e w' h => bad h, fun W hW => (hO W hW).mono fun e w' h => bad h, hR⟩
end

set_option maxRecDepth 100000 in
set_option maxHeartbeats 2000000 in
theorem domTells_walk (A : Option Addr) (c : Nat) (l : List Nat) (root a b : Int) (w : World) (h1 : Rd w A (l.map uv)) (hnb : l.length ≤ 9223372036854775807) (hb0 : ∀ x ∈ l, B64 x) (hT : Tab w) :
    Calls Tryd.prog 7 #[.slice A l.length c, .int .i64 root, .int .i64 a, .int .i64 b] w fun e w' => e = .returned (.bool true) ∧ Below w.heap.size w w' := by
  have hb := rowAt_all hb0
  generalize hl : l.length = n at *
  obtain ⟨nd, no, xd, xo, ed, eo, eg, isb, hcase, hD, hO, hR⟩ := dom_calls (c := c) l w h1 hl hnb hb hT root a b
  have HC := Lib.hid hcase
  have HD := Lib.hid hD
  have HO := Lib.hid hO
  have HR := Lib.hid hR
  have H1 := Lib.hid h1
  have HL := Lib.hid hl
  have HB := Lib.hid hb
  have HT := Lib.hid hT
  clear hcase hD hO hR h1 hl hb hT hb0
  go_enter Tryd.func7, Tryd.ntmps7
  go_wp2_with fail
  refine (HD.out _ (below_new (Below.refl _ _) _)).mono ?_
  rintro e w1 ⟨A1, c1, rfl, hown1, hb1⟩
  have HA1 := Lib.hid (Rd.of_own hown1)
  have B1 := Lib.hid (below_then (below_new (Below.refl _ _) _) hb1)
  have hF1 : w1.cell? ⟨w.heap.size, 0, none⟩ = some (.slice A n c) := by
    rw [hb1.cell (p := ⟨w.heap.size, 0, none⟩) (by simp), World.cell?_alloc_at _ _ _ _ rfl]
    rfl
  have S1 : w.heap.size < w1.heap.size := by have := hb1.size; simp at this; omega
  clear hown1 hb1
  go_wp2_with fail
  refine (HO.out _ B1.out).mono ?_
  rintro e w2 ⟨A2, c2, rfl, hown2, hb2⟩
  have HA2 := Lib.hid (Rd.of_own hown2)
  have HA12 := Lib.hid (HA1.out.below hb2)
  have B2 := Lib.hid (below_then B1.out hb2)
  have hF2 : w2.cell? ⟨w.heap.size, 0, none⟩ = some (.slice A n c) := by rw [hb2.cell (p := ⟨w.heap.size, 0, none⟩) S1]; exact hF1
  have S2 : w.heap.size < w2.heap.size := Nat.lt_of_lt_of_le S1 hb2.size
  clear hown2 hb2 hF1 S1 HA1 B1
  go_wp2_with fail
  refine (HR.out _ B2.out).mono ?_
  rintro e w3 ⟨rfl, hb3⟩
  have HA23 := Lib.hid (HA2.out.below hb3)
  have HA13 := Lib.hid (HA12.out.below hb3)
  have B3 := Lib.hid (below_then B2.out hb3)
  have hF3 : w3.cell? ⟨w.heap.size, 0, none⟩ = some (.slice A n c) := by rw [hb3.cell (p := ⟨w.heap.size, 0, none⟩) S2]; exact hF2
  have S3 : w.heap.size < w3.heap.size := Nat.lt_of_lt_of_le S2 hb3.size
  clear hb3 hF2 S2 HA2 HA12 B2
  go_wp2_with fail
  refine (rRowsFault_any l [] _ (H1.out.below B3.out) HL.out hnb HB.out (Rd.nil_ _ _) rfl (by simp) (rowAt_all (by simp))).mono ?_
  rintro e w4 ⟨rfl, hb4⟩
  have HA24 := Lib.hid (HA23.out.below hb4)
  have HA14 := Lib.hid (HA13.out.below hb4)
  have B4 := Lib.hid (below_then B3.out hb4)
  have hF4 : w4.cell? ⟨w.heap.size, 0, none⟩ = some (.slice A n c) := by rw [hb4.cell (p := ⟨w.heap.size, 0, none⟩) S3]; exact hF3
  have S4 : w.heap.size < w4.heap.size := Nat.lt_of_lt_of_le S3 hb4.size
  clear hb4 hF3 S3 HA23 HA13 B3
  go_wp2_with fail
  have hE5 : ((w4.alloc (Obj.cells #[Value.int IntKind.i64 (faultOf l [])] 25)).alloc (Obj.cells #[Value.int IntKind.i64 root] 3)).cell? ⟨w4.heap.size, 0, none⟩ = some (.int .i64 (faultOf l [])) := by
    rw [World.cell?_alloc_lt _ _ _ (by simp), World.cell?_alloc_at _ _ _ _ rfl]
    rfl
  have hF5 : ((w4.alloc (Obj.cells #[Value.int IntKind.i64 (faultOf l [])] 25)).alloc (Obj.cells #[Value.int IntKind.i64 root] 3)).cell? ⟨w.heap.size, 0, none⟩ = some (.slice A n c) := by
    rw [World.cell?_alloc_lt _ _ _ (by simp; omega), World.cell?_alloc_lt _ _ _ S4]
    exact hF4
  have HL5 := Lib.hid (rd_lit (w4.alloc (Obj.cells #[Value.int IntKind.i64 (faultOf l [])] 25)) _ #[Value.int IntKind.i64 root] 3 ([root].map (.int .i64)) rfl rfl)
  have B5 := Lib.hid (below_new (below_new B4.out (Obj.cells #[Value.int IntKind.i64 (faultOf l [])] 25)) (Obj.cells #[Value.int IntKind.i64 root] 3))
  have HA15 := Lib.hid ((HA14.out.alloc (Obj.cells #[Value.int IntKind.i64 (faultOf l [])] 25)).alloc (Obj.cells #[Value.int IntKind.i64 root] 3))
  have HA25 := Lib.hid ((HA24.out.alloc (Obj.cells #[Value.int IntKind.i64 (faultOf l [])] 25)).alloc (Obj.cells #[Value.int IntKind.i64 root] 3))
  have S5 : w4.heap.size < ((w4.alloc (Obj.cells #[Value.int IntKind.i64 (faultOf l [])] 25)).alloc (Obj.cells #[Value.int IntKind.i64 root] 3)).heap.size := by simp; omega
  have hz4 : (w4.alloc (Obj.cells #[Value.int IntKind.i64 (faultOf l [])] 25)).heap.size = w4.heap.size + 1 := by simp
  rw [hz4] at HL5
  generalize (w4.alloc (Obj.cells #[Value.int IntKind.i64 (faultOf l [])] 25)).alloc (Obj.cells #[Value.int IntKind.i64 root] 3) = w5 at *
  refine (ranged_any l [root] w5 hE5 hF5 HL.out HL5.out rfl (by simp)).mono ?_
  rintro e w' ⟨rfl, rfl⟩
  have SF5 : w.heap.size < w5.heap.size := by omega
  generalize w4.heap.size = E at *
  clear HL5 hz4 HA14 HA24 B4 hF4 S4
  clear w4
  rcases HC.out with ⟨hx, rfl, rfl, rfl, rfl, rfl, rfl⟩ | ⟨hx, rfl, rfl, r, rfl, hr, rfl, hrest⟩
  · generalize domErr l [root] = x at *
    have hx1 : (x != 0) = true := by simp [hx]
    clear hx hE5 hF5 HD HO HR HC
    go_wp2_with fail
    go_ret
    exact ⟨rfl, B5.out⟩
  · rw [hx]
    have HG := Lib.hid (dErr_ok HB.out hx).1
    have HREST := Lib.hid hrest
    clear hrest HD HO HR HC hx
    by_cases hbig : 12 < nd
    · have hn0 : (12 : Int) < (nd : Int) := by omega
      clear hE5
      go_wp2_with fail
      go_ret
      exact ⟨rfl, B5.out⟩
    · have hn12 : nd ≤ 12 := by omega
      have HRU := Lib.hid (fun (k : Nat) (hk : k < nd) (W : World) (hW : Below w.heap.size w W) => rRuling_any (c := c) l r k W (H1.out.below hW) HL.out HG.out hr hk)
      have HCL : Hid (∀ m, (domC l r m).length ≤ 64) := Lib.hid (fun m => by rw [domC_len]; exact nums_len _)
      have HE5 := Lib.hid hE5
      have HF5 := Lib.hid hF5
      clear hE5
      go_wp2_with fail
      clear hF5
      go_loopw [18, 19, 20, 94] (fun _ _ _ i wr => ∃ k : Nat, k ≤ nd ∧ i = .int .i64 (k : Int) ∧ Hid (Below w5.heap.size w5 wr)) (fun _ _ _ i _ => nd - (intOf i).toNat)
      case atStart => exact ⟨0, by omega, rfl, Lib.hid (Below.refl _ _)⟩
      case round =>
        obtain ⟨k, hk, rfl, hbw⟩ := hrel
        have hFr : wr.cell? ⟨w.heap.size, 0, none⟩ = some (.slice A nd c) := by rw [hbw.out.cell (p := ⟨w.heap.size, 0, none⟩) SF5]; exact HF5.out
        have BW := Lib.hid (below_then B5.out hbw.out)
        by_cases hkn : k < nd
        · have hcl := HCL.out k
          go_wp2_with fail
          refine (HRU.out k hkn _ BW.out).mono ?_
          rintro e w7 ⟨A7, c7, rfl, hown7, hb7⟩
          have HR7 := Lib.hid (Rd.of_own hown7)
          have HB7 := Lib.hid (hbw.out.trans (hb7.mono hbw.out.size))
          obtain ⟨b8, o8, rfl, hc8⟩ := ((HA15.out.below hbw.out).below hb7).at_ (k := k) (by simpa [domRow] using hkn)
          have hc8' : w7.cell? ⟨b8, o8 + k, none⟩ = some (.int .i64 (butOne (domC l r k))) := by
            rw [hc8]
            simp [domRow, iw]
          clear hown7 hb7 hFr hc8 hbw
          by_cases hgt : 1 < (domC l r k).length
          · obtain ⟨b9, o9, rfl, hc9⟩ := HR7.out.at_ (k := (domC l r k).length - 2) (by rw [List.length_map]; omega)
            have hc9' : w7.cell? ⟨b9, o9 + ((domC l r k).length - 2), none⟩ = some (.int .i64 ((domC l r k)[(domC l r k).length - 2]?.getD 0 : Nat)) := by
              rw [hc9]
              have : (domC l r k).length - 2 < (domC l r k).length := by omega
              simp [nv, this]
            have hbo : butOne (domC l r k) = ((domC l r k)[(domC l r k).length - 2]?.getD 0 : Nat) := by unfold butOne; rw [if_pos hgt]
            rw [hbo] at hc8'
            clear hc9 hbo
            generalize (domC l r k)[(domC l r k).length - 2]?.getD 0 = y at *
            generalize hLL : (domC l r k).length = L at *
            have hsub : IntKind.i64.wrap ((L : Int) - 2) = ((L - 2 : Nat) : Int) := by rw [IntKind.wrap_i64]; omega
            go_wp2_with fail
            go_roundw
            case rel => exact ⟨k + 1, by omega, by go_num, HB7⟩
            case measure => simp [intOf]; omega
          · have hbo : butOne (domC l r k) = -1 := by unfold butOne; rw [if_neg hgt]
            rw [hbo] at hc8'
            clear hbo
            go_wp2_with fail
            go_roundw
            case rel => exact ⟨k + 1, by omega, by go_num, HB7⟩
            case measure => simp [intOf]; omega
        · obtain rfl : k = nd := by omega
          have hEr : wr.cell? ⟨E, 0, none⟩ = some (.int .i64 (faultOf l [])) := by rw [hbw.out.cell (p := ⟨E, 0, none⟩) S5]; exact HE5.out
          have HA2r := Lib.hid (HA25.out.below hbw.out)
          have SFr : w.heap.size < wr.heap.size := Nat.lt_of_lt_of_le SF5 hbw.out.size
          have SEr : E < wr.heap.size := Nat.lt_of_lt_of_le S5 hbw.out.size
          have HEr := Lib.hid hEr
          have HFr := Lib.hid hFr
          clear hEr hFr hbw HA15 HA25 HE5 HF5 B5 S5 SF5
          go_wp2_with fail
          have BWN := Lib.hid (below_new BW.out (.cells #[.int .i64 b] 3))
          refine (ranged_any l [b] _ ((World.cell?_alloc_lt _ _ _ SEr).trans HEr.out) ((World.cell?_alloc_lt _ _ _ SFr).trans HFr.out) HL.out (rd_lit wr _ #[.int .i64 b] _ ([b].map (.int .i64)) rfl rfl) rfl (by simp)).mono ?_
          rintro e w' ⟨rfl, rfl⟩
          rcases HREST.out with ⟨hy, rfl, rfl, rfl, rfl⟩ | ⟨hy, rfl, m, rfl, hm, rfl, rfl, hlast⟩
          · generalize domErr l [b] = x at *
            have hx1 : (x != 0) = true := by simp [hy]
            clear hy
            go_wp2_with fail
            go_ret
            exact ⟨rfl, BWN.out⟩
          · rw [hy]
            have HLA := Lib.hid hlast
            have hclm := HCL.out m
            have HRM := Lib.hid (HRU.out m hm)
            have hlenm : (domC l r m).length = (domC l r m).length := rfl
            clear hlast HREST HRU hy
            have HA3 := Lib.hid (HA2r.out.alloc (.cells #[.int .i64 (m : Int)] 3))
            have HF3 : Hid ((wr.alloc (.cells #[.int .i64 (m : Int)] 3)).cell? ⟨w.heap.size, 0, none⟩ = some (.slice A k c)) := Lib.hid ((World.cell?_alloc_lt _ _ _ SFr).trans HFr.out)
            have HE3 : Hid ((wr.alloc (.cells #[.int .i64 (m : Int)] 3)).cell? ⟨E, 0, none⟩ = some (.int .i64 (faultOf l []))) := Lib.hid ((World.cell?_alloc_lt _ _ _ SEr).trans HEr.out)
            have SF3 : w.heap.size < (wr.alloc (.cells #[.int .i64 (m : Int)] 3)).heap.size := by simp; omega
            have SE3 : E < (wr.alloc (.cells #[.int .i64 (m : Int)] 3)).heap.size := by simp; omega
            generalize wr.alloc (.cells #[.int .i64 (m : Int)] 3) = w8 at *
            clear HA2r HEr HFr SFr SEr BW
            have hF8 := HF3.out
            go_wp2_with fail
            refine (HRM.out _ BWN.out).mono ?_
            rintro e w9 ⟨A9, c9, rfl, hown9, hb9⟩
            have HR9 := Lib.hid (Rd.of_own hown9)
            have HA9 := Lib.hid (HA3.out.below hb9)
            have B9 := Lib.hid (below_then BWN.out hb9)
            have hF9 : w9.cell? ⟨w.heap.size, 0, none⟩ = some (.slice A k c) := by rw [hb9.cell (p := ⟨w.heap.size, 0, none⟩) SF3]; exact HF3.out
            have hE9 : w9.cell? ⟨E, 0, none⟩ = some (.int .i64 (faultOf l [])) := by rw [hb9.cell (p := ⟨E, 0, none⟩) SE3]; exact HE3.out
            have SF9 : w.heap.size < w9.heap.size := Nat.lt_of_lt_of_le SF3 hb9.size
            have SE9 : E < w9.heap.size := Nat.lt_of_lt_of_le SE3 hb9.size
            have HF9 := Lib.hid hF9
            have HE9 := Lib.hid hE9
            clear hown9 hb9 hF9 hE9 hF8 SF3 SE3 HF3 HE3 HA3 HRM BWN
            go_wp2_with fail
            refine (slEq_nv (domC l r m) (domC l r m) HA9.out HR9.out rfl rfl (by omega) (by omega)).mono ?_
            rintro e w10 ⟨rfl, hb10⟩
            rw [decide_eq_true (rfl : domC l r m = domC l r m)]
            have B10 := Lib.hid (below_then B9.out hb10)
            have hF10 : w10.cell? ⟨w.heap.size, 0, none⟩ = some (.slice A k c) := by rw [hb10.cell (p := ⟨w.heap.size, 0, none⟩) SF9]; exact HF9.out
            have HE10 : Hid (w10.cell? ⟨E, 0, none⟩ = some (.int .i64 (faultOf l []))) := Lib.hid (by rw [hb10.cell (p := ⟨E, 0, none⟩) SE9]; exact HE9.out)
            have SF10 : w.heap.size < w10.heap.size := Nat.lt_of_lt_of_le SF9 hb10.size
            have SE10 : E < w10.heap.size := Nat.lt_of_lt_of_le SE9 hb10.size
            have HF10 := Lib.hid hF10
            clear hb10 HR9 HA9 B9 HF9 HE9 SF9 SE9
            go_wp2_with fail
            refine (ranged_any l [a] _ ((World.cell?_alloc_lt _ _ _ SE10).trans HE10.out) ((World.cell?_alloc_lt _ _ _ SF10).trans HF10.out) HL.out (rd_lit w10 _ #[.int .i64 a] _ ([a].map (.int .i64)) rfl rfl) rfl (by simp)).mono ?_
            rintro e w' ⟨rfl, rfl⟩
            have B11 := Lib.hid (below_new B10.out (.cells #[.int .i64 a] 3))
            rcases HLA.out with ⟨hz, rfl, rfl⟩ | ⟨hz, rfl, q, rfl, hq, rfl⟩
            · generalize domErr l [a] = x at *
              have hx1 : (x != 0) = true := by simp [hz]
              clear hz hF10
              go_wp2_with fail
              go_ret
              exact ⟨rfl, B11.out⟩
            · rw [hz]
              have HRB := Lib.hid (fun (W : World) (hW : Below w.heap.size w W) => rRuledBy_any (c := c) l r m W (H1.out.below hW) HL.out HG.out hr hm)
              have HBB := Lib.hid ((ruledBy_in l r m).b64 HG.out)
              have hF11 : (w10.alloc (.cells #[.int .i64 (q : Int)] 3)).cell? ⟨w.heap.size, 0, none⟩ = some (.slice A k c) := (World.cell?_alloc_lt _ _ _ SF10).trans HF10.out
              clear hz hF10 hlenm
              generalize w10.alloc (.cells #[.int .i64 (q : Int)] 3) = w11 at *
              go_wp2_with fail
              refine (HRB.out _ B11.out).mono ?_
              rintro e w12 ⟨rfl, hb12⟩
              have B12 := Lib.hid (below_then B11.out hb12)
              clear hb12
              go_wp2_with fail
              refine (in_nat _ HBB.out q _).mono ?_
              rintro e w' ⟨rfl, rfl⟩
              generalize (ruledBy l r m).testBit q = y at *
              go_wp2_with fail
              go_ret
              exact ⟨rfl, B12.out⟩
end Go.Proofs.YtonmkmghpiagjaaDoor

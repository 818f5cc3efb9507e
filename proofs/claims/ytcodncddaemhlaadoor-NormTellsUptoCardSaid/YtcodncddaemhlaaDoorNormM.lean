/- A made slice of asks that is filled ask by ask. -/
import Derived.Test.YtcodncddaemhlaaDoorNorm9
import Derived.OwnWalk
namespace Go.Proofs.YtcodncddaemhlaaDoor
open Go.RowKit

def zeroRow : List Value := [.int .i64 0, .string ⟨#[]⟩, .int .i64 0, .slice none 0 0]
def HalfIs (P : Nat → Prop) (B m : Nat) (L : List AskT) (w : World) : Prop :=
  ∃ ac : List (Option Addr × Nat), ac.length = L.length ∧ Blk w B 24 (cellsA L ac ++ (List.replicate (m - L.length) zeroRow).flatten) ∧
    ∀ (i : Nat) (x : AskT) (a : Option Addr × Nat), L[i]? = some x → ac[i]? = some a → AskP (fun k => P k ∧ k ≠ B) w x a.1 a.2
theorem cellsA_len4 {L : List AskT} {ac : List (Option Addr × Nat)} (h : ac.length = L.length) : (cellsA L ac).length = L.length * 4 := by rw [cellsA_len L ac h]; omega
theorem set_four (p t : List Value) (z1 z2 z3 z4 a b c d : Value) :
    ((((p ++ z1 :: z2 :: z3 :: z4 :: t).set p.length a).set (p.length + 1) b).set (p.length + 2) c).set (p.length + 3) d = p ++ a :: b :: c :: d :: t := by
  induction p with
  | nil => rfl
  | cons x p ih => simp
theorem half_push {P : Nat → Prop} {B m : Nat} {L : List AskT} {w1 w2 : World} {x : AskT} {A : Option Addr} {c : Nat} (h : HalfIs P B m L w1) (hL : L.length < m) (hb : Below w1.heap.size w1 w2) (hx : AskP (fun k => P k ∧ k ≠ B) w2 x A c) :
    HalfIs P B m (L ++ [x]) ((((w2.setCell ⟨B, L.length * 4, none⟩ (.int .i64 x.kind)).setCell ⟨B, L.length * 4 + 1, none⟩ (.string ⟨x.name.toArray⟩)).setCell ⟨B, L.length * 4 + 2, none⟩ (.int .i64 x.n)).setCell ⟨B, L.length * 4 + 3, none⟩ (.slice A x.X.length c)) := by
  obtain ⟨ac, hl, hblk, hX⟩ := h
  have hlen : (L ++ [x]).length = L.length + 1 := by simp
  have key : ∀ (y : AskT) (a : Option Addr × Nat), AskP (fun k => P k ∧ k ≠ B) w2 y a.1 a.2 → AskP (fun k => P k ∧ k ≠ B) ((((w2.setCell ⟨B, L.length * 4, none⟩ (.int .i64 x.kind)).setCell ⟨B, L.length * 4 + 1, none⟩ (.string ⟨x.name.toArray⟩)).setCell ⟨B, L.length * 4 + 2, none⟩ (.int .i64 x.n)).setCell ⟨B, L.length * 4 + 3, none⟩ (.slice A x.X.length c)) y a.1 a.2 := fun y a hy =>
    askP_set (askP_set (askP_set (askP_set hy (fun h => h.2 rfl) _) (fun h => h.2 rfl) _) (fun h => h.2 rfl) _) (fun h => h.2 rfl) _
  have hblk2 := hblk.below hb hblk.lt
  refine ⟨ac ++ [(A, c)], by simp [hl], ?_, fun i y b hy hb' => ?_⟩
  · have h4 := (((hblk2.same (L.length * 4) (.int .i64 x.kind)).same (L.length * 4 + 1) (.string ⟨x.name.toArray⟩)).same (L.length * 4 + 2) (.int .i64 x.n)).same (L.length * 4 + 3) (.slice A x.X.length c)
    have e : cellsA L ac ++ (List.replicate (m - L.length) zeroRow).flatten = cellsA L ac ++ Value.int .i64 0 :: .string ⟨#[]⟩ :: .int .i64 0 :: .slice none 0 0 :: (List.replicate (m - (L.length + 1)) zeroRow).flatten := by
      have : m - L.length = (m - (L.length + 1)) + 1 := by omega
      rw [this, List.replicate_succ, List.flatten_cons]
      rfl
    rw [e, ← cellsA_len4 hl, set_four] at h4
    rw [hlen, cellsA_snoc hl, ← cellsA_len4 hl, List.append_assoc]
    exact h4
  · rcases Nat.lt_or_ge i L.length with h | h
    · rw [List.getElem?_append_left h] at hy
      rw [List.getElem?_append_left (by omega)] at hb'
      exact key y b (askP_below (hX i y b hy hb') hb)
    · have hi : i = L.length := by
        have := (List.getElem?_eq_some_iff.1 hy).1
        simp at this
        omega
      subst hi
      rw [List.getElem?_append_right (Nat.le_refl _)] at hy
      rw [List.getElem?_append_right (by omega), hl] at hb'
      simp at hy hb'
      subst hy hb'
      exact key x (A, c) hx
theorem half_ask {P : Nat → Prop} {B m : Nat} {L : List AskT} {w : World} (h : HalfIs P B m L w) (hL : L.length = m) (k : Int) (s : List UInt8) (n : Int) : AskP (fun j => P j ∨ j = B) w (.mk k s n L) (some ⟨B, 0, none⟩) m := by
  obtain ⟨ac, hl, hblk, hX⟩ := h
  have e : m - L.length = 0 := by omega
  rw [e] at hblk
  simp only [List.replicate_zero, List.flatten_nil, List.append_nil] at hblk
  refine .mk ac hl (by omega) (fun b off hA _ => ?_) (fun _ => ⟨B, 0, rfl, hblk.lt, fun j u hu => ?_⟩) fun i x a hx ha => AskP.mono (fun j hj _ => .inl hj.1) _ _ _ (hX i x a hx ha)
  · injection hA with hA
    injection hA with h1 _ _
    exact .inr h1.symm
  · rw [Nat.zero_add]
    exact hblk.cell hu
theorem half_below {P : Nat → Prop} {B m : Nat} {L : List AskT} {w w' : World} (h : HalfIs P B m L w) (hb : Below w.heap.size w w') : HalfIs P B m L w' := by
  obtain ⟨ac, hl, hblk, hX⟩ := h
  exact ⟨ac, hl, hblk.below hb hblk.lt, fun i x a hx ha => askP_below (hX i x a hx ha) hb⟩
theorem half_free {P : Nat → Prop} {B m : Nat} {L : List AskT} {w : World} (h : HalfIs P B m L w) (j : Nat) : w.frozen? ⟨B, j, none⟩ = false := by
  obtain ⟨ac, hl, hblk, hX⟩ := h
  exact hblk.free j
theorem half_lt {P : Nat → Prop} {B m : Nat} {L : List AskT} {w : World} (h : HalfIs P B m L w) : B < w.heap.size := by
  obtain ⟨ac, hl, hblk, hX⟩ := h
  exact hblk.lt
theorem half_cells {P : Nat → Prop} {B m : Nat} {L : List AskT} {w : World} (h : HalfIs P B m L w) (hL : L.length < m) : w.cell? ⟨B, L.length * 4, none⟩ = some (.int .i64 0) ∧ w.cell? ⟨B, L.length * 4 + 1, none⟩ = some (.string ⟨#[]⟩) ∧ w.cell? ⟨B, L.length * 4 + 2, none⟩ = some (.int .i64 0) ∧ w.cell? ⟨B, L.length * 4 + 3, none⟩ = some (.slice none 0 0) := by
  obtain ⟨ac, hl, hblk, hX⟩ := h
  have e : cellsA L ac ++ (List.replicate (m - L.length) zeroRow).flatten = cellsA L ac ++ Value.int .i64 0 :: .string ⟨#[]⟩ :: .int .i64 0 :: .slice none 0 0 :: (List.replicate (m - (L.length + 1)) zeroRow).flatten := by
    have : m - L.length = (m - (L.length + 1)) + 1 := by omega
    rw [this, List.replicate_succ, List.flatten_cons]
    rfl
  rw [e] at hblk
  rw [← cellsA_len4 hl]
  refine ⟨hblk.cell ?_, hblk.cell ?_, hblk.cell ?_, hblk.cell ?_⟩
  · rw [List.getElem?_append_right (Nat.le_refl _), Nat.sub_self]; rfl
  · rw [List.getElem?_append_right (by omega), Nat.add_sub_cancel_left]; rfl
  · rw [List.getElem?_append_right (by omega), Nat.add_sub_cancel_left]; rfl
  · rw [List.getElem?_append_right (by omega), Nat.add_sub_cancel_left]; rfl
theorem made0 : (madeCells #[Value.int .i64 0, .string ⟨#[]⟩, .int .i64 0, .slice none 0 0] (0 * 4)).toList = cellsA [] [] ++ (List.replicate (0 - ([] : List AskT).length) zeroRow).flatten := by kernel_rfl
theorem made1 : (madeCells #[Value.int .i64 0, .string ⟨#[]⟩, .int .i64 0, .slice none 0 0] (1 * 4)).toList = cellsA [] [] ++ (List.replicate (1 - ([] : List AskT).length) zeroRow).flatten := by kernel_rfl
theorem made2 : (madeCells #[Value.int .i64 0, .string ⟨#[]⟩, .int .i64 0, .slice none 0 0] (2 * 4)).toList = cellsA [] [] ++ (List.replicate (2 - ([] : List AskT).length) zeroRow).flatten := by kernel_rfl
/-- What 'make' gives, for the few parts that an ask has. -/
theorem half_start {P : Nat → Prop} {B m : Nat} (hm : m ≤ 2) {w' : World} (h : w'.ownsRow B 24 4 (.slice (some ⟨B, 0, none⟩) m m) m (madeCells (Value.agg #[.int .i64 0, .string ⟨#[]⟩, .int .i64 0, .slice none 0 0]).cells (m * 4)).toList) : HalfIs P B m [] w' := by
  refine ⟨[], rfl, ?_, fun i x a hx _ => by simp at hx⟩
  rcases h.2 with ⟨hv, _⟩ | ⟨g, cap, cur, hv, hrest⟩
  · cases hv
  · obtain ⟨_, hheap, _, _, hsz, htake⟩ := hrest
    injection hv with h1 _ h3
    injection h1 with h1
    injection h1 with h1 _ _
    subst h1 h3
    rw [List.take_of_length_le (by rw [Array.length_toList, hsz]; exact Nat.le_refl _)] at htake
    have e : (madeCells (Value.agg #[.int .i64 0, .string ⟨#[]⟩, .int .i64 0, .slice none 0 0]).cells (m * 4)).toList = cellsA [] [] ++ (List.replicate (m - ([] : List AskT).length) zeroRow).flatten := by
      have ec : (Value.agg #[.int .i64 0, .string ⟨#[]⟩, .int .i64 0, .slice none 0 0]).cells = #[.int .i64 0, .string ⟨#[]⟩, .int .i64 0, .slice none 0 0] := by simp [Value.cells]
      rw [ec]
      have hm3 : m = 0 ∨ m = 1 ∨ m = 2 := by omega
      rcases hm3 with h0 | h0 | h0
      · rw [h0]; exact made0
      · rw [h0]; exact made1
      · rw [h0]; exact made2
    rw [← e, ← htake]
    unfold Blk
    rw [hheap]
end Go.Proofs.YtcodncddaemhlaaDoor
/- Contract of the reference: Normal, under the contract of ruled. -/
namespace Go.Proofs.YtcodncddaemhlaaDoor
open Go.RowKit

/-- What is asked of ruled. -/
def RuledCon : Prop := ∀ (x : AskT) (A : Option Addr) (c : Nat) (w : World) (ok : Nat → Prop), AskP ok w x A c → okA x → sizeA x ≤ 60 → Calls Tryd.prog 18 #[askV x A c] w (RulePost ok x (ruledA x) w)
theorem kids_two {k : Int} {s : List UInt8} {n : Int} {X : List AskT} (h : okA (.mk k s n X)) : X.length ≤ 2 := by
  obtain ⟨_, _, h3, _⟩ := ok_form h
  rw [h3]
  unfold manyK
  split <;> (try split) <;> (try split) <;> omega
set_option maxRecDepth 100000 in
set_option maxHeartbeats 4000000 in
theorem rNormal_of (HRU : RuledCon) : ∀ (N : Nat) (x : AskT) (A : Option Addr) (c : Nat) (w : World) (ok : Nat → Prop), measR x < N → AskP ok w x A c → okA x → sizeA x ≤ 60 → Calls Tryd.prog 9 #[askV x A c] w (NormPost ok (normA x) w) := by
  intro N
  induction N with
  | zero => intro x A c w ok h; omega
  | succ N ih =>
  intro x A c w ok hN hA hok hs
  obtain ⟨k, s, n, X⟩ := x
  have HIH := Lib.hid ih
  have HR := Lib.hid HRU
  have HMN := Lib.hid hN
  have HPX := Lib.hid (AskP.mono (ok' := fun j => ok j ∧ j < w.heap.size) (fun _ h1 h2 => ⟨h1, h2⟩) _ _ _ hA)
  have HOK := Lib.hid hok
  have HSZX := Lib.hid hs
  have HS : Hid (1 + (X.map sizeA).sum ≤ 60) := Lib.hid (by rw [← sizeA_mk k s n X]; exact hs)
  have hm' : X.length ≤ 2 := kids_two hok
  have HKO := Lib.hid (kids_ok hok (fun y hy => norm_ok y (ok_kids hok y hy)))
  have HNA := Lib.hid (normA_mk k s n X)
  obtain ⟨y, hy⟩ := boxA_new w (.int .i64 k) (.string ⟨s.toArray⟩) (.int .i64 n) (.slice A X.length c) 24
  obtain ⟨r, hr⟩ := boxA_new (w.alloc (.cells #[.int .i64 k, .string ⟨s.toArray⟩, .int .i64 n, .slice A X.length c] 24)) (.int .i64 0) (.string ⟨#[]⟩) (.int .i64 0) (.slice none 0 0) 24
  have hbx := (Blk.new w #[.int .i64 k, .string ⟨s.toArray⟩, .int .i64 n, .slice A X.length c] 24).below hr (by simp)
  have hbr := Blk.new (w.alloc (.cells #[.int .i64 k, .string ⟨s.toArray⟩, .int .i64 n, .slice A X.length c] 24)) #[.int .i64 0, .string ⟨#[]⟩, .int .i64 0, .slice none 0 0] 24
  rw [show (w.alloc (.cells #[.int .i64 k, .string ⟨s.toArray⟩, .int .i64 n, .slice A X.length c] 24)).heap.size = w.heap.size + 1 by simp] at hbr
  have XB := Lib.hid hbx
  have RB := Lib.hid hbr
  have HY := Lib.hid (below_newA hy hr)
  have HZ0 : Hid (((w.alloc (.cells #[.int .i64 k, .string ⟨s.toArray⟩, .int .i64 n, .slice A X.length c] 24)).alloc (.cells #[.int .i64 0, .string ⟨#[]⟩, .int .i64 0, .slice none 0 0] 24)).heap.size = w.heap.size + 2) := Lib.hid (by simp)
  clear ih HRU hA hok hs hN y hy r hr hbr hbx
  unfold askV
  simp only [AskT.kind, AskT.name, AskT.n, AskT.X]
  generalize hNR : normA (.mk k s n X) = NR at *
  have HNR := Lib.hid hNR
  clear hNR
  generalize hbs : (⟨s.toArray⟩ : ByteArray) = bs at *
  have HBS := Lib.hid hbs
  clear hbs
  obtain ⟨i0, hi0, hz0, hs0, hb0⟩ := elAsk
  go_enter Tryd.func9, Tryd.ntmps9
  go_upto_region 1 with fail
  generalize (w.alloc (.cells #[.int .i64 k, .string bs, .int .i64 n, .slice A X.length c] 24)).alloc (.cells #[.int .i64 0, .string ⟨#[]⟩, .int .i64 0, .slice none 0 0] 24) = w0 at *
  obtain ⟨BX, hBX⟩ : ∃ BX, BX = w.heap.size := ⟨_, rfl⟩
  have HBXE := Lib.hid hBX
  rw [← hBX] at XB RB HZ0 ⊢
  clear hBX
  have y1 := XB.out.cell (j := 0) rfl
  have y2 := XB.out.cell (j := 1) rfl
  have y3 := XB.out.cell (j := 2) rfl
  have y4 := XB.out.cell (j := 3) rfl
  go_upto_region 2 with (at_make; refine wpList_make_full w0 rfl _ _ _ rfl w0.heap.size 24 i0 _ 4 Tryd.underlying22 hi0 hz0 hs0 _ _ _ _ X.length rfl rfl rfl rfl (by rw [hb0]; omega) (by unfold maxLen; omega) (Nat.le_refl _) ?_; intro w1 hown1 hg1)
  have hb1 : Below w0.heap.size w0 w1 := (Below.refl _ w0).grown hg1 (Nat.le_refl _) (fun k hk => by cases hk)
  have HH := Lib.hid (half_start (P := fun j => (ok j ∧ j < w.heap.size) ∨ w0.heap.size < j) hm' hown1)
  obtain ⟨BL, hBL⟩ : ∃ BL, BL = w0.heap.size := ⟨_, rfl⟩
  have HBLE := Lib.hid hBL
  rw [← hBL] at HH ⊢
  clear hBL hown1 hg1 y1 y2 y3 y4
  have XB1 := Lib.hid (XB.out.below hb1 XB.out.lt)
  have RB1 := Lib.hid (RB.out.below hb1 RB.out.lt)
  have HB1 := Lib.hid (below_newA HY.out hb1)
  have HB01 := Lib.hid hb1
  clear hb1
  have y1 := XB1.out.cell (j := 0) rfl
  have y2 := XB1.out.cell (j := 1) rfl
  have y3 := XB1.out.cell (j := 2) rfl
  have y4 := XB1.out.cell (j := 3) rfl
  go_wp2_with fail
  go_loopw [4, 5, 15] (fun _ _ i wr => ∃ j : Nat, i = .int .i64 (j : Int) ∧ j ≤ X.length ∧ Hid (HalfIs (fun j => (ok j ∧ j < w.heap.size) ∨ BL < j) BL X.length ((X.map normA).take j) wr) ∧ Hid (Below w0.heap.size w0 wr)) (fun _ _ i _ => X.length - (intOf i).toNat)
  case atStart => exact ⟨0, rfl, by omega, HH, HB01⟩
  case round =>
    obtain ⟨j, rfl, hj, HI, HB⟩ := hrel
    have HBW := Lib.hid (below_newA HY.out HB.out)
    by_cases hlt : j < X.length
    · obtain ⟨x, hx⟩ : ∃ x, X[j]? = some x := ⟨_, List.getElem?_eq_getElem hlt⟩
      obtain ⟨b, off, A', c', rfl, e1, e2, e3, e4, hch⟩ := AskP.child (askP_below HPX.out HBW.out) hx
      have HTS : Hid ((X.map normA).take (j + 1) = (X.map normA).take j ++ [normA x]) := Lib.hid (by
        rw [List.take_add_one, List.getElem?_map, hx]
        rfl)
      have HTL : Hid (((X.map normA).take j).length = j) := Lib.hid (by rw [List.length_take, List.length_map]; omega)
      obtain ⟨u, hu⟩ := boxA_new wr (.int .i64 x.kind) (.string ⟨x.name.toArray⟩) (.int .i64 x.n) (.slice A' x.X.length c') 24
      have U := Lib.hid u
      have HU := Lib.hid hu
      have UB := Lib.hid (Blk.new wr #[.int .i64 0, .string ⟨#[]⟩, .int .i64 0, .slice none 0 0] 24)
      have HXS : Hid (sizeA x ≤ 60) := Lib.hid (by
        have h1 : (X.map sizeA)[j]? = some (sizeA x) := by rw [List.getElem?_map, hx]; rfl
        have h2 := sum_take_succ h1
        have h3 := sum_take_le (X.map sizeA) (j + 1)
        have := HS.out
        omega)
      have HCH := Lib.hid hch
      have HME : Hid (measR x < N) := Lib.hid (by have h1 := HMN.out; have h2 := measR_kid (k := k) (s := s) (n := n) (List.mem_of_getElem? hx); omega)
      have HOX := Lib.hid (ok_kids HOK.out x (List.mem_of_getElem? hx))
      have HC := Lib.hid (fun W (hW : Below wr.heap.size wr W) => HIH.out x A' c' W (fun j => ok j ∧ j < w.heap.size) HME.out (askP_below HCH.out hW) HOX.out HXS.out)
      unfold NormPost askV at HC
      have hj1 : (j : Int) < (X.length : Int) := by omega
      clear hx hch u hu
      generalize hbx : (⟨x.name.toArray⟩ : ByteArray) = bx at *
      clear hbx
      generalize x.kind = xk at *
      generalize x.n = xn at *
      generalize x.X.length = xm at *
      generalize hn1 : (⟨(normA x).name.toArray⟩ : ByteArray) = nb at *
      generalize hn2 : (normA x).kind = nk at *
      generalize hn3 : (normA x).n = nn at *
      generalize hn4 : (normA x).X.length = nl at *
      have HN4 := Lib.hid (show _ ∧ _ ∧ _ ∧ _ from ⟨hn1, hn2, hn3, hn4⟩)
      clear hn1 hn2 hn3 hn4
      have ub := UB.out.free
      clear y1 y2 y3 y4
      go_upto_region 5 with fail
      generalize hw5 : wr.alloc (.cells #[.int .i64 xk, .string bx, .int .i64 xn, .slice A' xm c'] 24) = w5 at *
      have HZ5 : Hid (w5.heap.size = wr.heap.size + 1) := Lib.hid (by rw [← hw5]; simp)
      clear hw5 ub
      obtain ⟨u1, u2, u3, u4⟩ := U.out
      have HC5 := Lib.hid (HC.out w5 HU.out)
      go_wp2_with fail
      refine HC5.out.mono ?_
      rintro e w6 ⟨A6, c6, rfl, hat6, hb6⟩
      have HAT6 := Lib.hid hat6
      have HB6 := Lib.hid (below_newA HU.out hb6)
      have HI6 := Lib.hid (half_below HI.out HB6.out)
      have HB06 := Lib.hid (below_newA HB.out HB6.out)
      clear hat6 hb6 u1 u2 u3 u4
      have lf := half_free HI6.out
      obtain ⟨z1, z2, z3, z4⟩ := half_cells HI6.out (by rw [HTL.out]; exact hlt)
      rw [HTL.out] at z1 z2 z3 z4
      go_wp2_with fail
      refine ⟨⟨j + 1, rfl, by omega, Lib.hid ?_, Lib.hid ?_⟩, measA hlt⟩
      · obtain ⟨g1, g2, g3, g4⟩ := HN4.out
        have hz := HZ0.out
        have hz5 := HZ5.out
        have hbe := HBXE.out
        have hle := HBLE.out
        have hs0 := HB.out.size
        have h1 := half_push (x := normA x) (A := A6) (c := c6) HI.out (by rw [HTL.out]; exact hlt) HB6.out (AskP.mono (fun t ht _ => by
          rcases ht with h | h
          · exact ⟨.inl h, by omega⟩
          · exact ⟨.inr (by omega), by omega⟩) _ _ _ HAT6.out)
        rw [← HTS.out, HTL.out, g1, g2, g3, g4] at h1
        exact h1
      · have hle := HBLE.out
        exact (((HB06.out.setCell (p := ⟨BL, j * 4, none⟩) (by show w0.heap.size ≤ BL; omega) _).setCell (p := ⟨BL, j * 4 + 1, none⟩) (by show w0.heap.size ≤ BL; omega) _).setCell (p := ⟨BL, j * 4 + 2, none⟩) (by show w0.heap.size ≤ BL; omega) _).setCell (p := ⟨BL, j * 4 + 3, none⟩) (by show w0.heap.size ≤ BL; omega) _
    · obtain rfl : j = X.length := by omega
      have HTK : Hid ((X.map normA).take X.length = X.map normA) := Lib.hid (List.take_of_length_le (by simp))
      rw [HTK.out] at HI
      have HPC := Lib.hid (half_ask HI.out (by simp) k s n)
      have XB4 := Lib.hid (XB.out.below HB.out XB.out.lt)
      have RB4 := Lib.hid (RB.out.below HB.out RB.out.lt)
      clear y1 y2 y3 y4 HI HTK
      have y1 := XB4.out.cell (j := 0) rfl
      have y2 := XB4.out.cell (j := 1) rfl
      have y3 := XB4.out.cell (j := 2) rfl
      have y4 := XB4.out.cell (j := 3) rfl
      have yf := XB4.out.free
      go_upto_region 8 with fail
      have HPZ := Lib.hid (askP_set (AskP.mono (ok' := PB ok BX) (fun j hj _ => by
        have hz := HZ0.out
        have hle := HBLE.out
        rcases hj with (h | h) | h
        · exact .inl (by rw [HBXE.out]; exact h)
        · exact .inr (by omega)
        · exact .inr (by omega)) _ _ _ HPC.out) (b := BX) (j := 3) (by rintro (h | h); have := h.2; omega; omega) (.slice (some ⟨BL, 0, none⟩) X.length X.length))
      have XB5 := Lib.hid (XB4.out.same 3 (.slice (some ⟨BL, 0, none⟩) X.length X.length))
      have RB5 := Lib.hid (blk_other (j := 3) RB4.out (by omega : BX + 1 ≠ BX) (.slice (some ⟨BL, 0, none⟩) X.length X.length))
      have HB5 := Lib.hid (Below.setCell (p := ⟨BX, 3, none⟩) HBW.out (by show w.heap.size ≤ BX; rw [HBXE.out]; exact Nat.le_refl _) (.slice (some ⟨BL, 0, none⟩) X.length X.length))
      generalize hw2 : wr.setCell ⟨BX, 3, none⟩ (.slice (some ⟨BL, 0, none⟩) X.length X.length) = w2 at *
      clear hw2 y1 y2 y3 y4 yf XB4 RB4 HPC XB RB HB HBW
      have HTOP : Hid (topA (.mk k s n (X.map normA)) = NR) := Lib.hid HNA.out.symm
      have HRC := Lib.hid (HR.out (.mk k s n (X.map normA)) (some ⟨BL, 0, none⟩) X.length w2 (PB ok BX) HPZ.out HKO.out.1 (by have h1 := HKO.out.2.2; have h2 := HSZX.out; omega))
      have HVC : Hid (askV (.mk k s n (X.map normA)) (some ⟨BL, 0, none⟩) X.length = .agg #[.int .i64 k, .string bs, .int .i64 n, .slice (some ⟨BL, 0, none⟩) X.length X.length]) := Lib.hid (by unfold askV; simp only [AskT.kind, AskT.name, AskT.n, AskT.X, List.length_map, HBS.out])
      rw [HVC.out] at HRC
      unfold RulePost at HRC
      have y1 := XB5.out.cell (j := 0) rfl
      have y2 := XB5.out.cell (j := 1) rfl
      have y3 := XB5.out.cell (j := 2) rfl
      have y4 := XB5.out.cell (j := 3) rfl
      cases hru : ruledA (.mk k s n (X.map normA)) with
      | none =>
        rw [hru] at HRC
        have HE : Hid (NR = .mk k s n (X.map normA)) := Lib.hid (by rw [← HTOP.out]; exact topA_none hru)
        simp only [Option.getD_none, Option.isSome_none] at HRC
        unfold askV at HRC
        simp only [AskT.kind, AskT.name, AskT.n, AskT.X, List.length_map, HBS.out] at HRC
        go_wp2_with fail
        refine HRC.out.mono ?_
        rintro e w3 ⟨A3, c3, rfl, hat3, hb3⟩
        have HAT3 := Lib.hid hat3
        have HB3 := Lib.hid (below_newA HB5.out hb3)
        have HB23 := Lib.hid hb3
        have XB6 := Lib.hid (XB5.out.below hb3 XB5.out.lt)
        have RB6 := Lib.hid (RB5.out.below hb3 RB5.out.lt)
        have HLR : Hid (BX + 1 < w2.heap.size) := Lib.hid RB5.out.lt
        clear hat3 hb3 y1 y2 y3 y4
        obtain ⟨u, hu⟩ := boxA_new w3 (.int .i64 k) (.string bs) (.int .i64 n) (.slice A3 X.length c3) 24
        have U := Lib.hid u
        have HU := Lib.hid hu
        have HB4 := Lib.hid (below_newA HB3.out hu)
        have XB7 := Lib.hid (XB6.out.below hu XB6.out.lt)
        have RB7 := Lib.hid (RB6.out.below hu RB6.out.lt)
        have HAT7 := Lib.hid (askP_below HAT3.out hu)
        clear u hu
        go_upto_region 9 with fail
        generalize w3.alloc (.cells #[.int .i64 k, .string bs, .int .i64 n, .slice A3 X.length c3] 24) = w4 at *
        have HPW := Lib.hid (askP_below (askP_below HPZ.out HB23.out) HU.out)
        have y1 := XB7.out.cell (j := 0) rfl
        have y2 := XB7.out.cell (j := 1) rfl
        have y3 := XB7.out.cell (j := 2) rfl
        have y4 := XB7.out.cell (j := 3) rfl
        have rf := RB7.out.free
        have r1 := RB7.out.cell (j := 0) rfl
        have r2 := RB7.out.cell (j := 1) rfl
        have r3 := RB7.out.cell (j := 2) rfl
        have r4 := RB7.out.cell (j := 3) rfl
        go_wp2_with fail
        have RZ := Lib.hid (blk_put4 RB7.out (.int .i64 k) (.string bs) (.int .i64 n) (.slice (some ⟨BL, 0, none⟩) X.length X.length))
        have BZ := Lib.hid (below_put4A HB4.out (by rw [HBXE.out]; omega : w.heap.size ≤ BX + 1) (.int .i64 k) (.string bs) (.int .i64 n) (.slice (some ⟨BL, 0, none⟩) X.length X.length))
        have PZ := Lib.hid (AskP.mono (ok' := fun k => ok k ∨ w.heap.size ≤ k) (fun j hj _ => hj.elim (fun h => .inl h.1) (fun h => .inr (by have := HBXE.out; omega))) _ _ _ ((AskP.put4 HPW.out (b := BX + 1) (by rintro (h | h); have := h.2; omega; omega) (.int .i64 k) (.string bs) (.int .i64 n) (.slice (some ⟨BL, 0, none⟩) X.length X.length))))
        generalize ((((w4.setCell ⟨BX + 1, 0, none⟩ (.int .i64 k)).setCell ⟨BX + 1, 1, none⟩ (.string bs)).setCell ⟨BX + 1, 2, none⟩ (.int .i64 n)).setCell ⟨BX + 1, 3, none⟩ (.slice (some ⟨BL, 0, none⟩) X.length X.length)) = wz at *
        have q1 := RZ.out.cell (j := 0) rfl
        have q2 := RZ.out.cell (j := 1) rfl
        have q3 := RZ.out.cell (j := 2) rfl
        have q4 := RZ.out.cell (j := 3) rfl
        refine bodyPost_ret (v := .agg #[.int .i64 k, .string bs, .int .i64 n, (.slice (some ⟨BL, 0, none⟩) X.length X.length)]) (by simp [results, Tryd.results9, go_sem, q1, q2, q3, q4]) rfl ?_
        exact ⟨some ⟨BL, 0, none⟩, X.length, by rw [HE.out, HVC.out], by rw [HE.out]; exact PZ.out, BZ.out⟩
      | some yv =>
        rw [hru] at HRC
        have HM := Lib.hid (measR_rule (x := .mk k s n X) (y := yv) HOK.out hru)
        simp only [Option.getD_some, Option.isSome_some] at HRC
        have HNI := Lib.hid (fun A c W (hp : AskP (fun k => PB ok BX k ∨ w2.heap.size ≤ k) W yv A c) => HIH.out yv A c W _ (by have := HM.out.1; have := HMN.out; omega) hp HM.out.2.1 (by have := HM.out.2.2.2; have := HSZX.out; omega))
        have HNE : Hid (normA yv = NR) := Lib.hid (by rw [HM.out.2.2.1]; exact HNR.out)
        rw [HNE.out] at HNI
        unfold NormPost at HNI
        unfold askV at HNI HRC
        generalize (⟨yv.name.toArray⟩ : ByteArray) = yn at *
        generalize yv.kind = yk at *
        generalize yv.n = ynn at *
        generalize yv.X.length = yl at *
        have HVN : Hid (∀ A c, askV NR A c = .agg #[.int .i64 NR.kind, .string ⟨NR.name.toArray⟩, .int .i64 NR.n, .slice A NR.X.length c]) := Lib.hid (fun _ _ => rfl)
        generalize (⟨NR.name.toArray⟩ : ByteArray) = rn at *
        generalize NR.kind = rk at *
        generalize NR.n = rnn at *
        generalize NR.X.length = rl at *
        go_wp2_with fail
        refine HRC.out.mono ?_
        rintro e w3 ⟨A3, c3, rfl, hat3, hb3⟩
        have HAT3 := Lib.hid hat3
        have HB3 := Lib.hid (below_newA HB5.out hb3)
        have HB23 := Lib.hid hb3
        have XB6 := Lib.hid (XB5.out.below hb3 XB5.out.lt)
        have RB6 := Lib.hid (RB5.out.below hb3 RB5.out.lt)
        have HLR : Hid (BX + 1 < w2.heap.size) := Lib.hid RB5.out.lt
        clear hat3 hb3 y1 y2 y3 y4
        obtain ⟨u, hu⟩ := boxA_new w3 (.int .i64 yk) (.string yn) (.int .i64 ynn) (.slice A3 yl c3) 24
        have U := Lib.hid u
        have HU := Lib.hid hu
        have HB4 := Lib.hid (below_newA HB3.out hu)
        have XB7 := Lib.hid (XB6.out.below hu XB6.out.lt)
        have RB7 := Lib.hid (RB6.out.below hu RB6.out.lt)
        have HAT7 := Lib.hid (askP_below HAT3.out hu)
        clear u hu
        go_upto_region 9 with fail
        generalize w3.alloc (.cells #[.int .i64 yk, .string yn, .int .i64 ynn, .slice A3 yl c3] 24) = w4 at *
        have HNC := Lib.hid (HNI.out A3 c3 w4 HAT7.out)
        obtain ⟨u1, u2, u3, u4⟩ := U.out
        go_wp2_with fail
        refine HNC.out.mono ?_
        rintro e w5 ⟨A5, c5, rfl, hat5, hb5⟩
        have HAT5 := Lib.hid hat5
        have HB9 := Lib.hid (below_newA HB4.out hb5)
        have RB9 := Lib.hid (RB7.out.below hb5 RB7.out.lt)
        have HSS : Hid (w2.heap.size ≤ w4.heap.size) := Lib.hid (Nat.le_trans HB23.out.size HU.out.size)
        clear hat5 hb5 u1 u2 u3 u4
        have HPW := Lib.hid (AskP.mono (ok' := PB ok BX) (fun j hj _ => by
          have h1 := HLR.out
          have h2 := HSS.out
          rcases hj with (h | h) | h
          · exact h
          · exact .inr (by omega)
          · exact .inr (by omega)) _ _ _ HAT5.out)
        have rf := RB9.out.free
        have r1 := RB9.out.cell (j := 0) rfl
        have r2 := RB9.out.cell (j := 1) rfl
        have r3 := RB9.out.cell (j := 2) rfl
        have r4 := RB9.out.cell (j := 3) rfl
        go_wp2_with fail
        have RZ := Lib.hid (blk_put4 RB9.out (.int .i64 rk) (.string rn) (.int .i64 rnn) (.slice A5 rl c5))
        have BZ := Lib.hid (below_put4A HB9.out (by rw [HBXE.out]; omega : w.heap.size ≤ BX + 1) (.int .i64 rk) (.string rn) (.int .i64 rnn) (.slice A5 rl c5))
        have PZ := Lib.hid (AskP.mono (ok' := fun k => ok k ∨ w.heap.size ≤ k) (fun j hj _ => hj.elim (fun h => .inl h.1) (fun h => .inr (by have := HBXE.out; omega))) _ _ _ ((AskP.put4 HPW.out (b := BX + 1) (by rintro (h | h); have := h.2; omega; omega) (.int .i64 rk) (.string rn) (.int .i64 rnn) (.slice A5 rl c5))))
        generalize ((((w5.setCell ⟨BX + 1, 0, none⟩ (.int .i64 rk)).setCell ⟨BX + 1, 1, none⟩ (.string rn)).setCell ⟨BX + 1, 2, none⟩ (.int .i64 rnn)).setCell ⟨BX + 1, 3, none⟩ (.slice A5 rl c5)) = wz at *
        have q1 := RZ.out.cell (j := 0) rfl
        have q2 := RZ.out.cell (j := 1) rfl
        have q3 := RZ.out.cell (j := 2) rfl
        have q4 := RZ.out.cell (j := 3) rfl
        refine bodyPost_ret (v := .agg #[.int .i64 rk, .string rn, .int .i64 rnn, (.slice A5 rl c5)]) (by simp [results, Tryd.results9, go_sem, q1, q2, q3, q4]) rfl ?_
        exact ⟨A5, c5, by rw [HVN.out], PZ.out, BZ.out⟩
end Go.Proofs.YtcodncddaemhlaaDoor

/- Contract: slices.SortFunc at edges that the call itself has made. Lengths below 2^62. -/
import Derived.Test.YtiechbaknolimaaDoorGr1
import Derived.Test.YtiechbaknolimaaDoorShelf4
import Derived.Shelf.Abstract
import Derived.Shelf.SlSortCmp.NoneTotal
import Derived.Deep.AppendLies
namespace Go.Proofs.YtiechbaknolimaaDoor
open Go.RowKit Go.Sort Go.Lib

/-- A world that has only grown by draws and new blocks. -/
def Grw (w w' : World) : Prop := ∃ (q : Nat) (os : Array Obj), w' = grow (w.drewN q) os
theorem Grw.refl (w : World) : Grw w w := ⟨0, #[], by simp [World.drewN, grow]⟩
theorem Grw.drew {w w' : World} (h : Grw w w') : Grw w w'.drew := by
  obtain ⟨q, os, rfl⟩ := h
  exact ⟨q + 1, os, by simp [World.drewN, World.drew, grow, Nat.add_assoc]⟩
theorem Grw.alloc {w w' : World} (h : Grw w w') (o : Obj) : Grw w (w'.alloc o) := by
  obtain ⟨q, os, rfl⟩ := h
  exact ⟨q, os.push o, by simp [World.drewN, World.alloc, grow]⟩
theorem gOrder_grw (a b : EdgeT) (w : World) : Calls Tryd.prog 34 #[ev a, ev b] w fun e w' => e = .returned (.int .i64 (edgeCmp a b)) ∧ Grw w w' := by
  obtain ⟨a1, a2⟩ := a
  obtain ⟨b1, b2⟩ := b
  have H1 := Lib.hid cmpI_any
  have HE : Hid (orI (cmpI a1 b1) (cmpI a2 b2) = edgeCmp (a1, a2) (b1, b2)) := Lib.hid rfl
  unfold ev
  go_enter Tryd.func34, Tryd.ntmps34
  go_wp2_with fail
  obtain ⟨y1, y2, y3, y4, _⟩ := box_two w (.int .i64 a1) (.int .i64 a2) (.int .i64 b1) (.int .i64 b2) 69
  have y5 : Grw w ((w.alloc (.cells #[.int .i64 a1, .int .i64 a2] 69)).alloc (.cells #[.int .i64 b1, .int .i64 b2] 69)) := ((Grw.refl w).alloc _).alloc _
  generalize (w.alloc (.cells #[.int .i64 a1, .int .i64 a2] 69)).alloc (.cells #[.int .i64 b1, .int .i64 b2] 69) = w2 at *
  generalize w.heap.size + 1 = B2 at *
  go_region_held3 (fun w' => w'.cell? ⟨w.heap.size, 0, none⟩ = some (.int .i64 a1) ∧ w'.cell? ⟨w.heap.size, 1, none⟩ = some (.int .i64 a2) ∧ w'.cell? ⟨B2, 0, none⟩ = some (.int .i64 b1) ∧ w'.cell? ⟨B2, 1, none⟩ = some (.int .i64 b2) ∧ Grw w w')
    ((refine ⟨?_, ?_, ?_, ?_, ?_⟩ <;> first | assumption | exact Grw.drew (by assumption) | exact cell_alloc (by assumption) _ | exact Grw.alloc (by assumption) _ | exact Grw.drew (Grw.alloc (by assumption) _)))
    ((first
      | (go_at_call 65; refine (H1.out _ _ _).mono ?_; rintro e w' ⟨rfl, rfl⟩)
      | (go_at_call 64; refine (cOr_two (cmpI a1 b1) (cmpI a2 b2) ((w2.alloc (.cells #[.int .i64 (cmpI a1 b1), .int .i64 (cmpI a2 b2)] 3)).drew) (show Rd ((w2.alloc (.cells #[.int .i64 (cmpI a1 b1), .int .i64 (cmpI a2 b2)] 3)).drew) _ _ from rd_lit w2 _ #[.int .i64 (cmpI a1 b1), .int .i64 (cmpI a2 b2)] 3 _ rfl rfl)).mono ?_; rintro e w' ⟨rfl, rfl⟩)))
  rename_i hh
  have HB := Lib.hid hh.2.2.2.2
  clear hh y1 y2 y3 y4 y5
  rw [HE.out]
  go_wp2_with fail
  go_ret
  exact ⟨rfl, HB.out⟩
theorem ltOf_edge (a b : EdgeT) : ltOf edgeCmp a b = edgeLt a b := by
  have := edgeCmp_lt a b
  unfold ltOf
  rw [Bool.eq_iff_iff]
  rw [Bool.eq_iff_iff] at this
  simp only [decide_eq_true_eq, Bool.not_eq_true'] at this ⊢
  cases h : edgeLt a b with
  | true => rw [h] at this; simp at this; simp; omega
  | false => rw [h] at this; simp at this; simp; omega
theorem swoE : SWO (ltOf edgeCmp) where
  irrefl x := by unfold ltOf edgeCmp cmpI; simp
  trans x y z h1 h2 := by
    have e : ∀ a b, ltOf edgeCmp a b = edgeLt a b := ltOf_edge
    rw [e] at *
    exact edgeLt_trans _ _ _ h1 h2
  ntrans x y z h1 h2 := by
    have e : ∀ a b, ltOf edgeCmp a b = edgeLt a b := ltOf_edge
    rw [e] at *
    unfold edgeLt at *
    rw [decide_eq_false_iff_not] at *
    omega
theorem totE (x y : EdgeT) (h1 : ltOf edgeCmp x y = false) (h2 : ltOf edgeCmp y x = false) : x = y := by
  rw [ltOf_edge] at *
  unfold edgeLt at *
  rw [decide_eq_false_iff_not] at *
  obtain ⟨x1, x2⟩ := x
  obtain ⟨y1, y2⟩ := y
  simp only at *
  have : x1 = y1 := by omega
  have : x2 = y2 := by omega
  simp [*]
def encE (e : EdgeT) : List Value := [.int .i64 e.1, .int .i64 e.2]
theorem flatE (E : List EdgeT) : flatK encE 2 E.toArray = (eV E).toArray := by
  apply Array.ext
  · simp [eV_len]; omega
  · intro t h1 h2
    have h3 : t < E.length * 2 := by simpa using h1
    have hlt : t / 2 < E.length := by omega
    have he : E[t / 2]? = some E[t / 2] := List.getElem?_eq_getElem hlt
    obtain ⟨q1, q2⟩ := eV_at he
    have hx : (flatK encE 2 E.toArray)[t]! = _ := get_flatK encE 2 E.toArray t (by simpa using h3)
    rw [getElem!_pos _ t h1] at hx
    rw [hx]
    have hd : E.toArray[t / 2]! = E[t / 2] := by simp [hlt]
    rw [hd]
    have hr : (eV E).toArray[t] = (eV E)[t]'(by simpa using h2) := by simp
    rw [hr]
    rcases Nat.mod_two_eq_zero_or_one t with h0 | h0
    · rw [h0]
      have : (eV E)[t]? = some (.int .i64 (E[t / 2]).1) := by rw [← q1]; congr 1; omega
      rw [List.getElem?_eq_getElem (by simpa using h2)] at this
      injection this with this
      rw [this]; rfl
    · rw [h0]
      have : (eV E)[t]? = some (.int .i64 (E[t / 2]).2) := by rw [← q2]; congr 1; omega
      rw [List.getElem?_eq_getElem (by simpa using h2)] at this
      injection this with this
      rw [this]; rfl
/-- A row of the call's own, in the sort's words; behind the sort. -/
theorem own_flat {w : World} {B e s n c g : Nat} {xs : List Value} (h : w.ownsRow B e s (.slice (some ⟨g, 0, none⟩) n c) n xs) : Holds id w g 0 xs.toArray := fun j hj => by
  rcases h.2 with ⟨hv, _⟩ | ⟨g', cap, cur, hv, hB, hg, h1, h2, h3, h4⟩
  · cases hv
  · injection hv with hA _ hc
    injection hA with hA
    injection hA with hA _ _
    subst hA hc
    have hj' : j < xs.length := by simpa using hj
    refine ⟨?_, by simp [World.frozen?, hg]⟩
    have := h.cells (g := g) rfl j xs[j] (by simp [hj'])
    unfold Addr.add at this
    have hx : xs.toArray[j]! = xs[j] := by simp [hj']
    rw [hx, Nat.zero_add]
    by_cases h0 : j = 0
    · rw [if_pos h0] at this; subst h0; exact this
    · rw [if_neg h0, Nat.zero_add] at this; exact this
theorem own_sorted_flat {w : World} {B e s g n c : Nat} {xs ts : List Value} (h : w.ownsRow B e s (.slice (some ⟨g, 0, none⟩) n c) n xs) (hl : ts.length = xs.length) (q : Nat) (os : Array Obj) :
    (grow (putRow id (Sort.ahead w q) g 0 ts.toArray) os).ownsRow B e s (.slice (some ⟨g, 0, none⟩) n c) n ts ∧ w.grownBy (grow (putRow id (Sort.ahead w q) g 0 ts.toArray) os) (some g) := by
  have hlen := h.1
  rcases h.2 with ⟨hv, _⟩ | ⟨g', cap, cur, hv, hB, hg, h1, h2, h3, _⟩
  · cases hv
  · injection hv with hA _ hc
    injection hA with hA
    injection hA with hA _ _
    subst hA hc
    have hlt : g < w.heap.size := (Array.getElem?_eq_some_iff.1 hg).1
    have hcs : n * s ≤ c * s := Nat.mul_le_mul_right s h1
    constructor
    · refine ⟨by omega, .inr ⟨g, c, putCells id 0 ts.toArray cur, rfl, hB, ?_, h1, h2, by simp [putCells, h3], ?_⟩⟩
      · rw [heap_grow_old _ _ (by simpa using hlt)]
        simp [putRow, mapBlock, Sort.ahead, Array.getElem?_modify, hg, onCells]
      · apply List.ext_getElem?
        intro j
        by_cases hj : j < ts.length
        · rw [List.getElem?_take_of_lt (by omega), Array.getElem?_toList]
          simp [putCells, hj, show j < cur.size by omega]
        · rw [List.getElem?_take_eq_none (by omega), List.getElem?_eq_none (by omega)]
    · refine ⟨rfl, rfl, rfl, by simp, fun k hk hne => ?_⟩
      rw [heap_grow_old _ _ (by simpa using hk)]
      have : g ≠ k := fun e => hne (by rw [e])
      simp [putRow, mapBlock, Sort.ahead, Array.getElem?_modify, this]
def esort (E : List EdgeT) : List EdgeT := E.mergeSort fun x y => !(ltOf edgeCmp) y x
theorem esort_perm (E : List EdgeT) : (esort E).Perm E := List.mergeSort_perm _ _
/-- Edges of the call's own, sorted. -/
theorem sortE_any {B n c : Nat} {A : Option Addr} (E : List EdgeT) (w : World) (h : w.ownsRow B 69 2 (.slice A n c) n (eV E)) (hn : E.length = n) (hb : n < 4611686018427387904) (hB : B ≤ w.heap.size) :
    Calls Tryd.prog 33 #[.slice A n c, .func (.func 34) #[] #[]] w fun e w' => e = .returned (.tuple #[]) ∧ w'.ownsRow B 69 2 (.slice A n c) n (eV (esort E)) ∧ w.grownBy w' (Value.slice A n c).ownBlock := by
  rcases Nat.eq_zero_or_pos n with h0 | h0
  · subst h0
    have hE : E = [] := List.eq_nil_of_length_eq_zero hn
    subst hE
    have hz := AnyF.slices_SortFunc_none Tryd.laysSlF06_f33 A c (.func (.func 34) #[] #[]) w
    refine (show Calls Tryd.prog 33 _ _ _ from hz).mono ?_
    rintro e w' ⟨rfl, rfl⟩
    exact ⟨rfl, by simpa [esort] using h, ⟨rfl, rfl, rfl, Nat.le_refl _, fun _ _ _ => rfl⟩⟩
  · obtain ⟨g, cap, hv, hg1, hg2⟩ := h.form h0
    injection hv with hA _ hc
    subst hA hc
    have eg : ∀ args w, (callFunc 34 args).run Tryd.prog w = .ok (.enter 34 args) w := fun args w => enters_of Tryd.func34 (by kernel_rfl) rfl args w
    have hsz : E.toArray.size = n := by simpa using hn
    have hcmp : CmpLays Tryd.prog 34 #[] encE 2 edgeCmp g 0 E.toArray.size w := fun m os dk _ x y => (gOrder_grw x y _).mono fun e w' ⟨he, q, os', hw⟩ => ⟨he, q, os', hw⟩
    have hH : HoldsK encE 2 w g 0 E.toArray := by unfold HoldsK; rw [flatE]; exact own_flat h
    have HT := Tryd.slices_SortFunc_edges (fun w => Tryd.isAgg69 w) (fun w => Tryd.sizeOf69 w) encE (fun _ => rfl) (fun x v hv => by simp [encE] at hv; rcases hv with rfl | rfl <;> rfl) edgeCmp swoE 34 #[] g 0 c E.toArray w eg hcmp hH hg2 (by omega)
    rw [hsz] at HT
    refine HT.mono ?_
    rintro e w' ⟨rfl, d', q, os, hp, hs, rfl⟩
    have hu := sorted_unique_holds swoE totE E.toArray d' (by rw [hsz]; exact hp) (by rw [hsz]; exact hs)
    have hd : d' = (esort E).toArray := by rw [← Array.toArray_toList (xs := d'), hu]; rfl
    have hl : (eV (esort E)).length = (eV E).length := by rw [eV_len, eV_len, (esort_perm E).length_eq]
    have hf := own_sorted_flat h hl q os
    subst hd
    have e1 : sortWorldK encE 2 w g 0 q (esort E).toArray os = grow (putRow id (Sort.ahead w q) g 0 (eV (esort E)).toArray) os := by unfold sortWorldK putRowK; rw [flatE]
    rw [e1]
    exact ⟨rfl, hf.1, hf.2⟩
end Go.Proofs.YtiechbaknolimaaDoor

/- Contracts that the law's proof leans on, and plain lemmas to them, merged. No condition beyond each contract's own hypotheses. -/
import Derived.Test.YtoandhhkmkgmaaaGreatDoorMg0
import Derived.ProofKit
import Derived.Carry
import Derived.OpenShut
import Derived.ChangeSlices
import Derived.Deep.Slices
import Derived.SizedLaws
import Derived.Laws.Cover2
import Derived.Test.YtoandhhkmkgmaaaGreatDoorMg2
import Derived.ChangeMaps5
namespace Go.Proofs.YtoandhhkmkgmaaaGreatDoor
open Go.RowKit Go.WideShapes Go.ChangeShapes Go.ChangeAt

theorem trodAll_below {H : Type} {enc : TypeId × Value → H} {P : Program} (hl : laidOutB P = true) {W W' : World} (hb : Below W.heap.size W W') :
 ∀ {ts : List TypeId} {vs : List Value} {ds : List (DataW H)} {ps : List MemPlace}, (∀ t ∈ ts, P.readableRec t = true ∧ t < P.types.size) →
 DataW.TrodAll enc P W 0 (fun _ => true) true ts vs ds ps → (∀ x ∈ ps, x.block < W.heap.size) → DataW.TrodAll enc P W' 0 (fun b => decide (b < W.heap.size)) true ts vs ds ps
 | [], [], [], _, _, h, _ => h
 | [], [], _ :: _, _, _, h, _ => h.elim
 | [], _ :: _, _, _, _, h, _ => by cases h
 | _ :: _, [], _, _, _, h, _ => by cases h
 | _ :: _, _ :: _, [], _, _, h, _ => h.elim
 | t :: ts, v :: vs, d :: ds, ps, hr, h, hlt => by
   obtain ⟨p, q, h1, h2, rfl⟩ := h
   have ht := hr t (List.mem_cons_self ..)
   exact ⟨p, q, Below.trod hl ht.1 ht.2 h1 hb (fun x hx => hlt x (List.mem_append_left _ hx)), trodAll_below hl hb (fun t' h' => hr t' (List.mem_cons_of_mem _ h')) h2 (fun x hx => hlt x (List.mem_append_right _ hx)), rfl⟩

theorem law_post {H : Type} {enc : TypeId × Value → H} {P : Program} {f : Func} {s : ChangeSpec} {W W' : World} {args : Array Value} {ds : List (DataW H)} {before : List MemPlace} {tb : TypeId}
 (hl : laidOutB P = true) (hr : ∀ t ∈ f.params.toList, P.readableRec t = true ∧ t < P.types.size) (hres : f.resultTypes = #[tb]) (hbool : P.underlying tb = some .bool) (hvars : s.vars = [])
 (hspec : s.fn H ds = { results := [.lit (.bool true)], args := ds })
 (hW : DataW.Whole enc P f.params.toList s.vars false W args.toList ds [] before) (hb : Below W.heap.size W W') :
 s.post enc P f false true false false W args (.bool true) W' := by
 have lower : ∀ p ∈ before, p.block < W.heap.size := fun p hp => hW.lt p hp
 have hW0 := hW
 obtain ⟨p, q, hA, hV, rfl, _, _⟩ := hW
 rw [hvars] at hV
 have hq : q = [] := hV
 subst hq
 have lower' : ∀ x ∈ p, x.block < W.heap.size := fun x hx => lower x (by simpa using hx)
 refine ⟨ds, [], p ++ [], [], p, [], hW0, ?_, ?_, ?_, World.keptBut_mono (fun x hx => ⟨hx, .inr (.inl (by simpa using hx))⟩) (hb.frame (· ∈ p ++ [])), fun h => by cases h⟩
 ·rw [List.append_nil, hspec, hres]
  exact trodAll_cons_mk (shut_bool hbool _) trodAll_mk0
 ·rw [List.append_nil, hspec]
  exact trodAll_below hl hb hr hA lower'
 ·rw [List.append_nil, hspec, hvars]
  rfl

theorem lt_of_cell {w : World} {b o : Nat} {v : Value} (h : w.cell? ⟨b, o, none⟩ = some v) : b < w.heap.size := by
 rcases Nat.lt_or_ge b w.heap.size with h' | h'
 ·exact h'
 ·simp [World.cell?, Array.getElem?_eq_none h'] at h

end Go.Proofs.YtoandhhkmkgmaaaGreatDoor
namespace Go.Proofs.YtoandhhkmkgmaaaGreatDoor
open Go.RowKit Go.WideShapes Go.ChangeShapes Go.ChangeAt Go.Deep

theorem open_list_rd {H : Type} {enc : TypeId × Value → H} {P : Program} {W : World} {base j : Nat} {t e : TypeId} {v : Value} {d : DataW H} {ps : List MemPlace} {α : Type} (en : α → Value) (p : α → Prop) (bytes : Nat)
 (ht : P.underlying t = some (.slice e)) (hc : P.cellsOf e = 1) (hb : P.bytesOf e = bytes)
 (hone : ∀ {n : Nat} {V : Value} {D : DataW H} {Pl : List MemPlace}, DataW.trod enc P W 0 (fun _ => true) true n e [V] = some (D, Pl) → ∃ x, V = en x ∧ p x)
 {ts : List TypeId} {ds : List (DataW H)} (hwt : (DataW.weightsEach P ts ds).all (· ≤ reachBytes) = true) (hts : ts[j]? = some t) (hds : ds[j]? = some d)
 (hok : Value.okWide P W .any base t v) (h : DataW.Trod enc P W 0 (fun _ => true) true t v d ps) :
 ∃ (A : Option Addr) (l : List α) (c : Nat), v = .slice A l.length c ∧ Rd W A (l.map en) ∧ l.length * bytes ≤ 140737488351232 ∧ l.length ≤ 9223372036854775807 ∧ ∀ x ∈ l, p x := by
 obtain ⟨a0, len, cap, rfl⟩ := okWide_slice ht hok
 obtain ⟨fuel, hf⟩ := h
 rcases open_slice1 ht hc hf with ⟨hcs, hx⟩ | ⟨a, len', cap', m, n, V, D, Pl, hcs, _, hl, hm, hmm, hx, hcell⟩
 ·simp [Value.cells] at hcs
  obtain ⟨rfl, rfl, rfl⟩ := hcs
  exact ⟨none, [], 0, rfl, Rd.nil_ _ _, by simp, by simp, by simp⟩
 ·simp [Value.cells] at hcs
  obtain ⟨rfl, rfl, rfl⟩ := hcs
  simp at hmm
  have hlm : len ≤ m := by omega
  have hx1 : d = .slice ((List.range len).map D) ((List.range (m - len)).map fun j => D (len + j)) := by
   have := congrArg Prod.fst hx; exact this
  have hsz := sized_slice hwt hts (by rw [hds, hx1]) ht
  simp only [List.length_map, List.length_range, hb] at hsz
  have hsz' : len * bytes ≤ 140737488351232 := Nat.le_trans (Nat.mul_le_mul_right _ (by omega)) hsz
  have hex : ∀ i, i < len → ∃ x, V i = en x ∧ p x := fun i hi => hone (hcell i (by omega)).2
  -- the elements
  have hlist : ∀ k, k ≤ len → ∃ l : List α, l.length = k ∧ ∀ i, i < k → ∃ x, l[i]? = some x ∧ V i = en x ∧ p x := by
   intro k
   induction k with
   | zero => exact fun _ => ⟨[], rfl, fun i hi => absurd hi (Nat.not_lt_zero _)⟩
   | succ k ih =>
     intro hk
     obtain ⟨l, hl1, hl2⟩ := ih (by omega)
     obtain ⟨x, hx1, hx2⟩ := hex k (by omega)
     refine ⟨l ++ [x], by simp [hl1], fun i hi => ?_⟩
     rcases Nat.lt_or_ge i k with h1 | h1
     ·obtain ⟨y, hy1, hy2, hy3⟩ := hl2 i h1
      exact ⟨y, by rw [List.getElem?_append_left (by omega)]; exact hy1, hy2, hy3⟩
     ·obtain rfl : i = k := by omega
      exact ⟨x, by rw [List.getElem?_append_right (by omega), hl1]; simp, hx1, hx2⟩
  obtain ⟨l, hl1, hl2⟩ := hlist len (Nat.le_refl _)
  unfold maxLen at hm
  refine ⟨some a, l, cap, by rw [hl1], ?_, by rw [hl1]; exact hsz', by rw [hl1]; omega, fun x hx => ?_⟩
  ·intro hpos
   rw [List.length_map, hl1] at hpos
   obtain ⟨b, off, ext⟩ := a
   have h0 := (hcell 0 (by omega)).1
   have hext : ext = none := by simpa [Addr.add] using World.cell?_spot h0
   subst hext
   have hat : ∀ i, i < len → W.cell? ⟨b, off + i, none⟩ = some (V i) := fun i hi => by
    have := (hcell i (by omega)).1
    unfold Addr.add at this
    by_cases hz : i = 0
    ·subst hz; simpa using this
    ·simpa [hz] using this
   refine ⟨b, off, rfl, lt_of_cell (hat 0 hpos), fun i u hu => ?_⟩
   rw [List.getElem?_map] at hu
   cases hi : l[i]? with
   | none => rw [hi] at hu; cases hu
   | some x =>
     rw [hi] at hu
     have hil : i < len := by rw [← hl1]; exact (List.getElem?_eq_some_iff.1 hi).1
     obtain ⟨y, hy1, hy2, _⟩ := hl2 i hil
     rw [hi] at hy1
     injection hy1 with hy1
     subst hy1
     rw [hat i hil, hy2]
     simpa using hu
  ·obtain ⟨i, hi⟩ := List.mem_iff_getElem?.1 hx
   obtain ⟨y, hy1, _, hy3⟩ := hl2 i (by rw [← hl1]; exact (List.getElem?_eq_some_iff.1 hi).1)
   rw [hi] at hy1
   injection hy1 with hy1
   subst hy1
   exact hy3
end Go.Proofs.YtoandhhkmkgmaaaGreatDoor
namespace Go.Proofs.YtoandhhkmkgmaaaGreatDoor
open Go.RowKit Go.WideShapes Go.ChangeShapes Go.ChangeAt Go.Deep

def StrOk (s : List UInt8) : Prop := s.length ≤ maxLen
theorem sv_of (b : ByteArray) : Value.string b = sv b.data.toList := by
 unfold sv
 rw [Array.toArray_toList]
theorem str_size (b : ByteArray) : b.data.toList.length = b.size := by rw [Array.length_toList]; rfl
theorem trod_str {H : Type} {enc : TypeId × Value → H} {P : Program} {W : World} {base n : Nat} {sp : Nat → Bool} {hd : Bool} {e : TypeId} {V : Value} {D : DataW H} {Pl : List MemPlace} (he : P.underlying e = some .string)
 (h : DataW.trod enc P W base sp hd n e [V] = some (D, Pl)) : ∃ s : List UInt8, V = sv s ∧ StrOk s := by
 obtain ⟨b, hV, _, hb⟩ := DataW.trod_string he h
 injection hV with hV _
 subst hV
 exact ⟨b.data.toList, sv_of b, by unfold StrOk; rw [str_size]; exact hb⟩
theorem bulk_pos {H : Type} (d : DataW H) : 1 ≤ Rows.uptoBulk d := by
 cases d <;> first | (rename_i l; cases l <;> simp [Rows.uptoBulk]) | simp [Rows.uptoBulk]
theorem bulk_len {H : Type} : ∀ ds : List (DataW H), ds.length ≤ Rows.uptoBulkAll ds
 | [] => by simp [Rows.uptoBulkAll]
 | d :: r => by
   have h1 := bulk_pos d
   have h2 := bulk_len r
   simp only [Rows.uptoBulkAll, List.length_cons]
   omega
theorem len_bulk {H : Type} {enc : TypeId × Value → H} {P : Program} {W : World} {t e : TypeId} {A : Option Addr} {n c : Nat} {d : DataW H} {ps : List MemPlace}
 (ht : P.underlying t = some (.slice e)) (hc : P.cellsOf e = 1) (h : DataW.Trod enc P W 0 (fun _ => true) true t (.slice A n c) d ps) : n ≤ Rows.uptoBulk d := by
 obtain ⟨fuel, hf⟩ := h
 rcases open_slice1 ht hc hf with ⟨hcs, hx⟩ | ⟨a, len', cap', m, n', V, D, Pl, hcs, _, hl, hm, hmm, hx, hcell⟩
 ·simp [Value.cells] at hcs
  omega
 ·simp [Value.cells] at hcs
  obtain ⟨rfl, rfl, rfl⟩ := hcs
  have hx1 : d = .slice ((List.range n).map D) ((List.range (m - n)).map fun j => D (n + j)) := by
   have := congrArg Prod.fst hx; exact this
  subst hx1
  have := bulk_len ((List.range n).map D)
  simp only [Rows.uptoBulk]
  simp at this
  omega
end Go.Proofs.YtoandhhkmkgmaaaGreatDoor
namespace Go.Proofs.YtoandhhkmkgmaaaGreatDoor
open Go.RowKit Go.WideShapes Go.ChangeShapes Go.ChangeAt Go.Deep

end Go.Proofs.YtoandhhkmkgmaaaGreatDoor

/- What is asked, as it lies in memory. No condition. -/
import Derived.Test.YtcodncddaemhlaaDoorAskPlain
import Derived.Test.YtcodncddaemhlaaDoorName1
import Derived.Test.YtcodncddaemhlaaDoorOwn2
import Derived.Test.YtcodncddaemhlaaDoorOwnAt
import Derived.Maps.Range
import Derived.ArgAppend
namespace Go.Proofs.YtcodncddaemhlaaDoor
open Go.RowKit

/-- The cells of asks, each with the place and the room of what is in it. -/
def cellsA (X : List AskT) (ac : List (Option Addr × Nat)) : List Value := (X.zip ac).flatMap fun p => [.int .i64 p.1.kind, .string ⟨p.1.name.toArray⟩, .int .i64 p.1.n, .slice p.2.1 p.1.X.length p.2.2]
def askV (x : AskT) (A : Option Addr) (c : Nat) : Value := .agg #[.int .i64 x.kind, .string ⟨x.name.toArray⟩, .int .i64 x.n, .slice A x.X.length c]
inductive AskAt (w : World) : AskT → Option Addr → Nat → Prop
  | mk {k : Int} {s : List UInt8} {n : Int} {X : List AskT} {A : Option Addr} {c : Nat} (ac : List (Option Addr × Nat)) (hl : ac.length = X.length) (hc : X.length ≤ c) (hr : Rd w A (cellsA X ac))
      (hX : ∀ (i : Nat) (x : AskT) (a : Option Addr × Nat), X[i]? = some x → ac[i]? = some a → AskAt w x a.1 a.2) : AskAt w (.mk k s n X) A c
theorem AskAt.keep {w w' : World} (hb : Below w.heap.size w w') : ∀ (x : AskT) (A : Option Addr) (c : Nat), AskAt w x A c → AskAt w' x A c := by
  refine askT_ind fun k s n X ih A c h => ?_
  cases h with
  | mk ac hl hc hr hX => exact .mk ac hl hc (hr.below hb) fun i x a hx ha => ih x (List.mem_of_getElem? hx) _ _ (hX i x a hx ha)
theorem cellsA_len : ∀ (X : List AskT) (ac : List (Option Addr × Nat)), ac.length = X.length → (cellsA X ac).length = 4 * X.length
  | [], _, _ => by simp [cellsA]
  | x :: X, [], h => by simp at h
  | x :: X, a :: ac, h => by
    have ih := cellsA_len X ac (by simpa using h)
    unfold cellsA at *
    rw [List.zip_cons_cons, List.flatMap_cons, List.length_append, ih, List.length_cons]
    simp
    omega
theorem cellsA_at : ∀ (X : List AskT) (ac : List (Option Addr × Nat)) (i : Nat) (x : AskT) (a : Option Addr × Nat), X[i]? = some x → ac[i]? = some a →
    (cellsA X ac)[4 * i]? = some (.int .i64 x.kind) ∧ (cellsA X ac)[4 * i + 1]? = some (.string ⟨x.name.toArray⟩) ∧ (cellsA X ac)[4 * i + 2]? = some (.int .i64 x.n) ∧ (cellsA X ac)[4 * i + 3]? = some (.slice a.1 x.X.length a.2)
  | [], _, i, x, a, h, _ => by simp at h
  | _ :: _, [], i, x, a, _, h => by simp at h
  | y :: X, b :: ac, 0, x, a, h1, h2 => by
    simp at h1 h2
    subst h1 h2
    simp [cellsA]
  | y :: X, b :: ac, i + 1, x, a, h1, h2 => by
    have ih := cellsA_at X ac i x a (by simpa using h1) (by simpa using h2)
    unfold cellsA at *
    rw [List.zip_cons_cons, List.flatMap_cons]
    have e : ∀ j, ([Value.int .i64 (y, b).1.kind, .string ⟨(y, b).1.name.toArray⟩, .int .i64 (y, b).1.n, .slice (y, b).2.1 (y, b).1.X.length (y, b).2.2] ++ (X.zip ac).flatMap fun p => [.int .i64 p.1.kind, .string ⟨p.1.name.toArray⟩, .int .i64 p.1.n, .slice p.2.1 p.1.X.length p.2.2])[4 + j]? = ((X.zip ac).flatMap fun p => [Value.int .i64 p.1.kind, .string ⟨p.1.name.toArray⟩, .int .i64 p.1.n, .slice p.2.1 p.1.X.length p.2.2])[j]? := fun j => by
      rw [List.getElem?_append_right (by simp)]
      congr 1
      simp
    refine ⟨?_, ?_, ?_, ?_⟩
    · rw [show 4 * (i + 1) = 4 + 4 * i by omega, e]; exact ih.1
    · rw [show 4 * (i + 1) + 1 = 4 + (4 * i + 1) by omega, e]; exact ih.2.1
    · rw [show 4 * (i + 1) + 2 = 4 + (4 * i + 2) by omega, e]; exact ih.2.2.1
    · rw [show 4 * (i + 1) + 3 = 4 + (4 * i + 3) by omega, e]; exact ih.2.2.2
/-- One ask of those that are in an ask: its cells, and that it lies. -/
theorem AskAt.child {w : World} {k : Int} {s : List UInt8} {n : Int} {X : List AskT} {A : Option Addr} {c : Nat} (h : AskAt w (.mk k s n X) A c) {i : Nat} {x : AskT} (hx : X[i]? = some x) :
    ∃ (b off : Nat) (A' : Option Addr) (c' : Nat), A = some ⟨b, off, none⟩ ∧ w.cell? ⟨b, off + i * 4, none⟩ = some (.int .i64 x.kind) ∧ w.cell? ⟨b, off + i * 4 + 1, none⟩ = some (.string ⟨x.name.toArray⟩) ∧ w.cell? ⟨b, off + i * 4 + 2, none⟩ = some (.int .i64 x.n) ∧ w.cell? ⟨b, off + i * 4 + 3, none⟩ = some (.slice A' x.X.length c') ∧ AskAt w x A' c' := by
  cases h with
  | mk ac hl hc hr hX =>
    have hi := (List.getElem?_eq_some_iff.1 hx).1
    obtain ⟨a, ha⟩ : ∃ a, ac[i]? = some a := ⟨_, List.getElem?_eq_getElem (by omega)⟩
    obtain ⟨b, off, hA, _, hcell⟩ := hr (by rw [cellsA_len X ac hl]; omega)
    obtain ⟨h0, h1, h2, h3⟩ := cellsA_at X ac i x a hx ha
    refine ⟨b, off, a.1, a.2, hA, ?_, ?_, ?_, ?_, hX i x a hx ha⟩
    · have := hcell _ _ h0; rwa [show 4 * i = i * 4 by omega] at this
    · have := hcell _ _ h1; rwa [show off + (4 * i + 1) = off + i * 4 + 1 by omega] at this
    · have := hcell _ _ h2; rwa [show off + (4 * i + 2) = off + i * 4 + 2 by omega] at this
    · have := hcell _ _ h3; rwa [show off + (4 * i + 3) = off + i * 4 + 3 by omega] at this
/-- Four cells in a block of their own. -/
structure BoxA (B : Nat) (v1 v2 v3 v4 : Value) (w : World) : Prop where
  c1 : w.cell? ⟨B, 0, none⟩ = some v1
  c2 : w.cell? ⟨B, 1, none⟩ = some v2
  c3 : w.cell? ⟨B, 2, none⟩ = some v3
  c4 : w.cell? ⟨B, 3, none⟩ = some v4
theorem cell_keptA {w w' : World} {B o : Nat} {v : Value} (h : w.cell? ⟨B, o, none⟩ = some v) (hb : Below w.heap.size w w') : w'.cell? ⟨B, o, none⟩ = some v := (hb.cell (p := ⟨B, o, none⟩) (lt_of_cell' h)).trans h
theorem BoxA.below {B : Nat} {v1 v2 v3 v4 : Value} {w w' : World} (h : BoxA B v1 v2 v3 v4 w) (hb : Below w.heap.size w w') : BoxA B v1 v2 v3 v4 w' := ⟨cell_keptA h.c1 hb, cell_keptA h.c2 hb, cell_keptA h.c3 hb, cell_keptA h.c4 hb⟩
theorem boxA_new (w : World) (x1 x2 x3 x4 : Value) (t : TypeId) : BoxA w.heap.size x1 x2 x3 x4 (w.alloc (.cells #[x1, x2, x3, x4] t)) ∧ Below w.heap.size w (w.alloc (.cells #[x1, x2, x3, x4] t)) := by
  refine ⟨⟨?_, ?_, ?_, ?_⟩, below_new (Below.refl _ _) _⟩ <;> (rw [World.cell?_alloc_at _ _ _ _ rfl]; rfl)
theorem below_newA {a w w' : World} (h : Below a.heap.size a w) (k : Below w.heap.size w w') : Below a.heap.size a w' := h.trans (k.mono h.size)
theorem measA {q m : Nat} (h : q < m) : m - (intOf (.int .i64 ((q : Int) + 1))).toNat < m - (intOf (.int .i64 (q : Int))).toNat := by
  simp [intOf]
  omega
theorem sum_take_succ {l : List Nat} {i v : Nat} (h : l[i]? = some v) : (l.take (i + 1)).sum = (l.take i).sum + v := by rw [List.take_add_one, h]; simp
theorem sum_take_le (l : List Nat) (i : Nat) : (l.take i).sum ≤ l.sum := by
  conv => rhs; rw [← List.take_append_drop i l]
  rw [List.sum_append]
  omega
end Go.Proofs.YtcodncddaemhlaaDoor
/- Words for a slice that grows while others lie still: what a world keeps that has grown, one row aside. No condition. -/
namespace Go.Proofs.YtcodncddaemhlaaDoor
open Go.RowKit

def FRel (w w' : World) (r r' : Option Nat) : Prop := w.grownBy w' r ∧ (r' = r ∨ ∃ g, r' = some g ∧ w.heap.size ≤ g)
section
variable {a b c w w' w0 : World} {r s t r' : Option Nat}
theorem FRel.refl (w : World) (r : Option Nat) : FRel w w r r := ⟨World.grownBy.refl w r, .inl rfl⟩
theorem FRel.trans (h : FRel a b r s) (k : FRel b c s t) : FRel a c r t := by
  refine ⟨h.1.andThen k.1 (fun j hj => ?_), ?_⟩
  · rcases h.2 with e | ⟨g, e, hg⟩
    · exact .inr (e ▸ hj)
    · rw [e] at hj
      injection hj with hj
      subst hj
      exact .inl hg
  · rcases k.2 with e | ⟨g, e, hg⟩
    · rw [e]; exact h.2
    · exact .inr ⟨g, e, Nat.le_trans h.1.size hg⟩
theorem FRel.of_below (h : Below w.heap.size w w') (r : Option Nat) : FRel w w' r r := ⟨⟨h.os, h.tape, h.output, h.size, fun k hk _ => h.block k hk⟩, .inl rfl⟩
theorem FRel.cell (h : FRel w w' r r') {b o : Nat} {v : Value} (hc : w.cell? ⟨b, o, none⟩ = some v) (hn : some b ≠ r) : w'.cell? ⟨b, o, none⟩ = some v := h.1.cell hc hn
theorem FRel.ne (h : FRel w w' r r') {b : Nat} (hb : b < w.heap.size) (hn : some b ≠ r) : some b ≠ r' := by
  rcases h.2 with e | ⟨g, e, hg⟩
  · rw [e]; exact hn
  · rw [e]
    intro h
    injection h with h
    omega
theorem FRel.below (h : FRel w w' r r') (hb : Below w0.heap.size w0 w) (hr : ∀ k, r = some k → w0.heap.size ≤ k) : Below w0.heap.size w0 w' := hb.grown h.1 hb.size hr
theorem FRel.box {B : Nat} {v1 v2 v3 v4 : Value} (hf : FRel w w' r r') (h : BoxA B v1 v2 v3 v4 w) (hn : some B ≠ r) : BoxA B v1 v2 v3 v4 w' := ⟨hf.cell h.c1 hn, hf.cell h.c2 hn, hf.cell h.c3 hn, hf.cell h.c4 hn⟩
theorem push_frel {w5 : World} {u : Value} {e : TypeId} (hg : (w.alloc (.cells #[u] e)).grownBy w5 r) (hat : r' = r ∨ r' = some (w.heap.size + 1)) : FRel w w5 r r' := by
  have h1 : FRel w (w.alloc (.cells #[u] e)) r r := FRel.of_below (below_new (Below.refl _ _) _) r
  refine h1.trans ⟨hg, ?_⟩
  rcases hat with h | h
  · exact .inl h
  · exact .inr ⟨_, h, by simp⟩
theorem own_ne {B e : Nat} {v : Value} {n : Nat} {xs : List Value} (h : w.ownsRow B e 1 v n xs) {g : Nat} (hg : w.heap.size ≤ g) : some g ≠ v.ownBlock := fun e => by
  have := (h.lt g e.symm).2
  omega
end
/-- The slice v reads as the texts l, in a block that is not r. -/
def BndR (w : World) (r : Option Nat) (v : Value) (l : List (List UInt8)) : Prop :=
  (v = .slice none 0 0 ∧ l = []) ∨ ∃ g c, v = .slice (some ⟨g, 0, none⟩) l.length c ∧ 0 < l.length ∧ l.length ≤ c ∧ some g ≠ r ∧ ∀ j u, (l.map sv)[j]? = some u → w.cell? ⟨g, 0 + j, none⟩ = some u
theorem BndR.keep {w w' : World} {r r' : Option Nat} {v : Value} {l : List (List UInt8)} (h : BndR w r v l) (hf : FRel w w' r r') : BndR w' r' v l := by
  rcases h with h | ⟨g, c, rfl, h0, hc, hn, hcell⟩
  · exact .inl h
  · have hlt : g < w.heap.size := lt_of_cell' (hcell 0 (sv l[0]) (by simp [h0]))
    exact .inr ⟨g, c, rfl, h0, hc, hf.ne hlt hn, fun j u hu => hf.cell (hcell j u hu) hn⟩
theorem BndR.rd {w : World} {r : Option Nat} {v : Value} {l : List (List UInt8)} (h : BndR w r v l) : ∃ A c, v = .slice A l.length c ∧ Rd w A (l.map sv) := by
  rcases h with ⟨rfl, rfl⟩ | ⟨g, c, rfl, h0, hc, hn, hcell⟩
  · exact ⟨none, 0, rfl, Rd.nil_ _ _⟩
  · exact ⟨_, c, rfl, fun _ => ⟨g, 0, rfl, lt_of_cell' (hcell 0 (sv l[0]) (by simp [h0])), hcell⟩⟩
theorem BndR.of_own {w w1 : World} {e n : Nat} {v : Value} {l : List (List UInt8)} {r : Option Nat} (h : w.ownsRow w1.heap.size e 1 v n (l.map sv)) (hn : l.length = n) (h0 : 0 < n) (hr : ∀ g, r = some g → g < w1.heap.size) : BndR w r v l := by
  subst hn
  obtain ⟨A, c, rfl⟩ := own_form h
  have hrd := Rd.of_own h
  rcases h.2 with ⟨hv, hz⟩ | ⟨g, cap, cur, hv, hb, _, hle, _⟩
  · omega
  · injection hv with hA _ hc
    subst hA hc
    refine .inr ⟨g, c, rfl, h0, hle, fun e => ?_, fun j u hu => ?_⟩
    · have := hr g e.symm
      omega
    · obtain ⟨b, off, hA, _, hcell⟩ := hrd (by simpa using h0)
      injection hA with hA
      injection hA with h1 h2 _
      subst h1 h2
      exact hcell j u hu
theorem sizeA_free : ∀ (x : AskT) (b : List (List UInt8)), (freeA x b).length ≤ sizeA x := by
  refine askT_ind fun k s n X ih b => ?_
  rw [freeA_mk, sizeA_mk, List.length_append, List.length_flatten]
  have h1 : (if k = 3 ∧ s ∉ b then [s] else ([] : List (List UInt8))).length ≤ 1 := by split <;> simp
  have h2 : ∀ (X : List AskT) (m : Nat), (∀ y ∈ X, ∀ b, (freeA y b).length ≤ sizeA y) → (((X.zipIdx m).map fun x => freeA x.1 (bindS k s b x.2)).map List.length).sum ≤ (X.map sizeA).sum := by
    intro X
    induction X with
    | nil => intro m _; simp
    | cons y X ihX =>
      intro m h
      have h3 := h y (by simp) (bindS k s b m)
      have h4 := ihX (m + 1) (fun z hz => h z (by simp [hz]))
      rw [List.zipIdx_cons]
      simp only [List.map_cons, List.sum_cons]
      omega
  have := h2 X 0 (fun y hy => ih y hy)
  omega
def FreePost (w0 w : World) (r : Option Nat) (l : List (List UInt8)) (e : Ending) (w' : World) : Prop :=
  ∃ A c, e = .returned (.slice A l.length c) ∧ w'.ownsRow w0.heap.size 9 1 (.slice A l.length c) l.length (l.map sv) ∧ FRel w w' r (Value.slice A l.length c).ownBlock
/-- What the children up to j give. -/
def kidsF (k : Int) (s : List UInt8) (b : List (List UInt8)) (X : List AskT) (j : Nat) : List (List UInt8) := ((X.zipIdx.map fun x => freeA x.1 (bindS k s b x.2)).take j).flatten
theorem kidsF_succ {k : Int} {s : List UInt8} {b : List (List UInt8)} {X : List AskT} {j : Nat} {x : AskT} (h : X[j]? = some x) : kidsF k s b X (j + 1) = kidsF k s b X j ++ freeA x (bindS k s b j) := by
  unfold kidsF
  rw [List.take_add_one, List.flatten_append, List.getElem?_map, List.getElem?_zipIdx, h]
  simp
theorem kidsF_all {k : Int} {s : List UInt8} {b : List (List UInt8)} {X : List AskT} : kidsF k s b X X.length = (X.zipIdx.map fun x => freeA x.1 (bindS k s b x.2)).flatten := by
  unfold kidsF
  rw [List.take_of_length_le (by simp)]
theorem kidsF_le {k : Int} {s : List UInt8} {b : List (List UInt8)} {X : List AskT} (j : Nat) : (kidsF k s b X j).length ≤ ((X.map sizeA).take j).sum := by
  induction j with
  | zero => simp [kidsF]
  | succ j ih =>
    rcases Nat.lt_or_ge j X.length with h | h
    · have hx : X[j]? = some X[j] := List.getElem?_eq_getElem h
      have hs : (X.map sizeA)[j]? = some (sizeA X[j]) := by rw [List.getElem?_map, hx]; rfl
      rw [kidsF_succ hx, sum_take_succ hs, List.length_append]
      have := sizeA_free X[j] (bindS k s b j)
      omega
    · have e1 : kidsF k s b X (j + 1) = kidsF k s b X j := by
        unfold kidsF
        rw [List.take_of_length_le (by simp; omega), List.take_of_length_le (by simp; omega)]
      have e2 : (X.map sizeA).take (j + 1) = (X.map sizeA).take j := by
        rw [List.take_of_length_le (by simp; omega), List.take_of_length_le (by simp; omega)]
      rw [e1, e2]
      exact ih
end Go.Proofs.YtcodncddaemhlaaDoor
/- Contracts: ask.count, the reference's AskSize. An ask as it lies, of at most 2^60 parts. -/
namespace Go.Proofs.YtcodncddaemhlaaDoor
open Go.RowKit

def CntPost (v : Nat) (w : World) (e : Ending) (w' : World) : Prop := e = .returned (.int .i64 (v : Int)) ∧ Below w.heap.size w w'
set_option maxRecDepth 100000 in
set_option maxHeartbeats 2000000 in
theorem aCount_any : ∀ (x : AskT) (A : Option Addr) (c : Nat) (w : World), AskAt w x A c → x.X.length ≤ 9223372036854775807 → sizeA x ≤ 1152921504606846976 → Calls Tryd.prog 24 #[askV x A c] w (CntPost (sizeA x) w) := by
  refine askT_ind fun k s n X ih A c w hA hm hs => ?_
  have HIH := Lib.hid ih
  have HA := Lib.hid hA
  have HSZ := Lib.hid (sizeA_mk k s n X)
  rw [HSZ.out] at hs ⊢
  have HS := Lib.hid hs
  obtain ⟨y, hy⟩ := boxA_new w (.int .i64 k) (.string ⟨s.toArray⟩) (.int .i64 n) (.slice A X.length c) 24
  have Y := Lib.hid y
  have HY := Lib.hid hy
  have hm' : X.length ≤ 9223372036854775807 := hm
  clear ih hA hs hm y hy
  unfold askV
  simp only [AskT.kind, AskT.name, AskT.n, AskT.X]
  generalize hbs : (⟨s.toArray⟩ : ByteArray) = bs at *
  clear hbs
  go_enter Tryd.func24, Tryd.ntmps24
  go_upto_region 1 with fail
  generalize w.alloc (.cells #[.int .i64 k, .string bs, .int .i64 n, .slice A X.length c] 24) = w0 at *
  obtain ⟨y1, y2, y3, y4⟩ := Y.out
  go_wp2_with fail
  go_loopw [3, 5, 9] (fun v _ i wr => ∃ (j t : Nat), i = .int .i64 (j : Int) ∧ j ≤ X.length ∧ v = .int .i64 (t : Int) ∧ Hid (t = 1 + ((X.map sizeA).take j).sum) ∧ Hid (Below w.heap.size w wr)) (fun _ _ i _ => X.length - (intOf i).toNat)
  case atStart => exact ⟨0, 1, rfl, by omega, rfl, Lib.hid (by simp), HY⟩
  case round =>
    obtain ⟨j, t, rfl, hj, rfl, HT, HB⟩ := hrel
    by_cases hlt : j < X.length
    · obtain ⟨x, hx⟩ : ∃ x, X[j]? = some x := ⟨_, List.getElem?_eq_getElem hlt⟩
      obtain ⟨b, off, A', c', rfl, e1, e2, e3, e4, hch⟩ := AskAt.child (AskAt.keep HB.out _ _ _ HA.out) hx
      have hms : (X.map sizeA)[j]? = some (sizeA x) := by rw [List.getElem?_map, hx]; rfl
      have h1 := sum_take_succ hms
      have h2 := sum_take_le (X.map sizeA) (j + 1)
      have h3 := HS.out
      have HT2 : Hid (t + sizeA x = 1 + ((X.map sizeA).take (j + 1)).sum) := Lib.hid (by rw [h1, HT.out]; omega)
      have HM : Hid (t + sizeA x ≤ 1152921504606846976) := Lib.hid (by rw [HT2.out]; omega)
      have HXX : Hid (x.X.length ≤ 9223372036854775807) := Lib.hid (by have h4 := HM.out; have := kids_size x; omega)
      obtain ⟨z, hz⟩ := boxA_new wr (.int .i64 x.kind) (.string ⟨x.name.toArray⟩) (.int .i64 x.n) (.slice A' x.X.length c') 24
      have Z := Lib.hid z
      have HZ := Lib.hid (below_newA HB.out hz)
      have HC := Lib.hid (HIH.out x (List.mem_of_getElem? hx) A' c' _ (AskAt.keep hz _ _ _ hch) HXX.out (by have := HM.out; omega))
      unfold askV CntPost at HC
      have hj1 : (j : Int) < (X.length : Int) := by omega
      clear hx hch hms h1 h2 h3 z hz
      generalize hbx : (⟨x.name.toArray⟩ : ByteArray) = bx at *
      clear hbx
      generalize x.kind = xk at *
      generalize x.n = xn at *
      generalize x.X.length = xm at *
      generalize sizeA x = xs at *
      go_upto_region 5 with fail
      generalize wr.alloc (.cells #[.int .i64 xk, .string bx, .int .i64 xn, .slice A' xm c'] 24) = w1 at *
      obtain ⟨z1, z2, z3, z4⟩ := Z.out
      have hm1 := HM.out
      go_wp2_with fail
      refine HC.out.mono ?_
      rintro e w2 ⟨rfl, hb2⟩
      have HB2 := Lib.hid (below_newA HZ.out hb2)
      clear hb2 z1 z2 z3 z4
      go_wp2_with fail
      exact ⟨⟨j + 1, t + xs, rfl, by omega, rfl, HT2, HB2⟩, measA hlt⟩
    · obtain rfl : j = X.length := by omega
      have HE : Hid ((t : Int) = ((1 + (X.map sizeA).sum : Nat) : Int)) := Lib.hid (by rw [HT.out, List.take_of_length_le (by simp)])
      go_wp2_with fail
      go_ret
      exact ⟨ret_int HE.out, HB.out⟩
set_option maxRecDepth 100000 in
set_option maxHeartbeats 2000000 in
theorem rSize_any : ∀ (x : AskT) (A : Option Addr) (c : Nat) (w : World), AskAt w x A c → x.X.length ≤ 9223372036854775807 → sizeA x ≤ 1152921504606846976 → Calls Tryd.prog 10 #[askV x A c] w (CntPost (sizeA x) w) := by
  refine askT_ind fun k s n X ih A c w hA hm hs => ?_
  have HIH := Lib.hid ih
  have HA := Lib.hid hA
  have HSZ := Lib.hid (sizeA_mk k s n X)
  rw [HSZ.out] at hs ⊢
  have HS := Lib.hid hs
  obtain ⟨y, hy⟩ := boxA_new w (.int .i64 k) (.string ⟨s.toArray⟩) (.int .i64 n) (.slice A X.length c) 24
  have Y := Lib.hid y
  have HY := Lib.hid hy
  have hm' : X.length ≤ 9223372036854775807 := hm
  clear ih hA hs hm y hy
  unfold askV
  simp only [AskT.kind, AskT.name, AskT.n, AskT.X]
  generalize hbs : (⟨s.toArray⟩ : ByteArray) = bs at *
  clear hbs
  go_enter Tryd.func10, Tryd.ntmps10
  go_upto_region 1 with fail
  generalize w.alloc (.cells #[.int .i64 k, .string bs, .int .i64 n, .slice A X.length c] 24) = w0 at *
  obtain ⟨y1, y2, y3, y4⟩ := Y.out
  go_wp2_with fail
  go_loopw [3, 5, 9] (fun v _ i wr => ∃ (j t : Nat), i = .int .i64 (j : Int) ∧ j ≤ X.length ∧ v = .int .i64 (t : Int) ∧ Hid (t = 1 + ((X.map sizeA).take j).sum) ∧ Hid (Below w.heap.size w wr)) (fun _ _ i _ => X.length - (intOf i).toNat)
  case atStart => exact ⟨0, 1, rfl, by omega, rfl, Lib.hid (by simp), HY⟩
  case round =>
    obtain ⟨j, t, rfl, hj, rfl, HT, HB⟩ := hrel
    by_cases hlt : j < X.length
    · obtain ⟨x, hx⟩ : ∃ x, X[j]? = some x := ⟨_, List.getElem?_eq_getElem hlt⟩
      obtain ⟨b, off, A', c', rfl, e1, e2, e3, e4, hch⟩ := AskAt.child (AskAt.keep HB.out _ _ _ HA.out) hx
      have hms : (X.map sizeA)[j]? = some (sizeA x) := by rw [List.getElem?_map, hx]; rfl
      have h1 := sum_take_succ hms
      have h2 := sum_take_le (X.map sizeA) (j + 1)
      have h3 := HS.out
      have HT2 : Hid (t + sizeA x = 1 + ((X.map sizeA).take (j + 1)).sum) := Lib.hid (by rw [h1, HT.out]; omega)
      have HM : Hid (t + sizeA x ≤ 1152921504606846976) := Lib.hid (by rw [HT2.out]; omega)
      have HXX : Hid (x.X.length ≤ 9223372036854775807) := Lib.hid (by have h4 := HM.out; have := kids_size x; omega)
      obtain ⟨z, hz⟩ := boxA_new wr (.int .i64 x.kind) (.string ⟨x.name.toArray⟩) (.int .i64 x.n) (.slice A' x.X.length c') 24
      have Z := Lib.hid z
      have HZ := Lib.hid (below_newA HB.out hz)
      have HC := Lib.hid (HIH.out x (List.mem_of_getElem? hx) A' c' _ (AskAt.keep hz _ _ _ hch) HXX.out (by have := HM.out; omega))
      unfold askV CntPost at HC
      have hj1 : (j : Int) < (X.length : Int) := by omega
      clear hx hch hms h1 h2 h3 z hz
      generalize hbx : (⟨x.name.toArray⟩ : ByteArray) = bx at *
      clear hbx
      generalize x.kind = xk at *
      generalize x.n = xn at *
      generalize x.X.length = xm at *
      generalize sizeA x = xs at *
      go_upto_region 5 with fail
      generalize wr.alloc (.cells #[.int .i64 xk, .string bx, .int .i64 xn, .slice A' xm c'] 24) = w1 at *
      obtain ⟨z1, z2, z3, z4⟩ := Z.out
      have hm1 := HM.out
      go_wp2_with fail
      refine HC.out.mono ?_
      rintro e w2 ⟨rfl, hb2⟩
      have HB2 := Lib.hid (below_newA HZ.out hb2)
      clear hb2 z1 z2 z3 z4
      go_wp2_with fail
      exact ⟨⟨j + 1, t + xs, rfl, by omega, rfl, HT2, HB2⟩, measA hlt⟩
    · obtain rfl : j = X.length := by omega
      have HE : Hid ((t : Int) = ((1 + (X.map sizeA).sum : Nat) : Int)) := Lib.hid (by rw [HT.out, List.take_of_length_le (by simp)])
      go_wp2_with fail
      go_ret
      exact ⟨ret_int HE.out, HB.out⟩
end Go.Proofs.YtcodncddaemhlaaDoor

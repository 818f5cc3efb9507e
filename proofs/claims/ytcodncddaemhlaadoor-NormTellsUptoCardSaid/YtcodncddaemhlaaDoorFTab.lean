/- The tables of ask and of utf8, out of what the row lays. No condition. -/
import Derived.Test.YtcodncddaemhlaaDoorAsk2
import Derived.Lib.LaidU8T
import Derived.ChangeArms
import Derived.Test.YtcodncddaemhlaaDoorOpenS
import Derived.Deep.SlicePairs
import Derived.Lib.SmallJoins
namespace Go.Proofs.YtcodncddaemhlaaDoor
open Go.RowKit Go.WideShapes Go.ChangeShapes

section
variable {H : Type} {enc : TypeId × Value → H} {P : Program} {W : World} {base n : Nat} {sp : Nat → Bool} {hd : Bool} {e : TypeId} {V : Value} {D : DataW H × List MemPlace}
theorem trod_int_at {k : IntKind} {z : Int} (he : P.underlying e = some (.int k)) (h : DataW.trod enc P W base sp hd n e [V] = some D) (hD : D.1 = .lit (.int k z)) : V = .int k z := by
  cases n with
  | zero => simp [DataW.trod] at h
  | succ n =>
    simp only [DataW.trod, he] at h
    cases V <;> simp at h
    rename_i k' z'
    obtain ⟨⟨rfl, hw⟩, h⟩ := h
    rw [← h] at hD
    simp at hD
    rw [hD]
theorem trod_bool_at {b : Bool} (he : P.underlying e = some .bool) (h : DataW.trod enc P W base sp hd n e [V] = some D) (hD : D.1 = .lit (.bool b)) : V = .bool b := by
  cases n with
  | zero => simp [DataW.trod] at h
  | succ n =>
    simp only [DataW.trod, he] at h
    cases V <;> simp at h
    rw [← h] at hD
    simp at hD
    rw [hD]
theorem trod_str_at {s : List UInt8} (he : P.underlying e = some .string) (h : DataW.trod enc P W base sp hd n e [V] = some D) (hD : D.1 = .lit (.string s)) : V = .string ⟨s.toArray⟩ := by
  obtain ⟨b, hV, rfl, _⟩ := DataW.trod_string he h
  injection hV with hV _
  subst hV
  simp at hD
  rw [← hD, Array.toArray_toList]
end
theorem cellsForm : Tryd.prog.cellsOf 56 = 4 := by kernel_rfl
theorem cellsFI : Tryd.prog.cellsOf 3 = 1 := by kernel_rfl
theorem cellsFB : Tryd.prog.cellsOf 4 = 1 := by kernel_rfl
theorem cellsFS : Tryd.prog.cellsOf 9 = 1 := by kernel_rfl
set_option maxRecDepth 100000 in
theorem form_cells {H : Type} {enc : TypeId × Value → H} {W : World} {base fuel : Nat} {sp : Nat → Bool} {hd : Bool} {cs : List Value} {z : Int} {a b : Bool} {s : List UInt8} {q : List MemPlace}
    (h : DataW.trod enc Tryd.prog W base sp hd fuel 56 cs = some (.agg [.lit (.int .i64 z), .lit (.bool a), .lit (.bool b), .lit (.string s)], q)) : cs = [.int .i64 z, .bool a, .bool b, .string ⟨s.toArray⟩] := by
  obtain ⟨xs, k, hk, hx, hlen, hxl, hfl⟩ := DataW.trod_struct Tryd.underlying56 h
  rw [cellsForm] at hlen
  obtain ⟨a0, a1, a2, a3, rfl⟩ : ∃ a0 a1 a2 a3, cs = [a0, a1, a2, a3] := by
    match cs, hlen with
    | [a0, a1, a2, a3], _ => exact ⟨a0, a1, a2, a3, rfl⟩
  obtain ⟨y0, y1, y2, y3, rfl⟩ : ∃ y0 y1 y2 y3, xs = [y0, y1, y2, y3] := by
    match xs, hxl with
    | [y0, y1, y2, y3], _ => exact ⟨y0, y1, y2, y3, rfl⟩
  have g0 : DataW.trod enc Tryd.prog W base sp hd k 3 [a0] = some y0 := by simpa [cellsFI] using hfl 0 _ rfl
  have g1 : DataW.trod enc Tryd.prog W base sp hd k 4 [a1] = some y1 := by simpa [cellsFB] using hfl 1 _ rfl
  have g2 : DataW.trod enc Tryd.prog W base sp hd k 4 [a2] = some y2 := by simpa [cellsFB] using hfl 2 _ rfl
  have g3 : DataW.trod enc Tryd.prog W base sp hd k 9 [a3] = some y3 := by simpa [cellsFS] using hfl 3 _ rfl
  simp only [List.map_cons, List.map_nil, Prod.mk.injEq, DataW.agg.injEq, List.cons.injEq, and_true] at hx
  obtain ⟨⟨e0, e1, e2, e3⟩, _⟩ := hx
  rw [trod_int_at Tryd.underlying3 g0 e0.symm, trod_bool_at Tryd.underlying4 g1 e1.symm, trod_bool_at Tryd.underlying4 g2 e2.symm, trod_str_at Tryd.underlying9 g3 e3.symm]
def u8ren : Go.Shelf.Ren := ⟨fun n => n, fun | 5 => 5 | 119 => 132 | 138 => 134 | 139 => 135 | n => n, fun | 3 => 2 | 4 => 3 | n => n⟩
theorem u8types : U8Types Tryd.prog u8ren := ⟨Tryd.underlying5, Tryd.underlying132, Tryd.underlying134, Tryd.underlying135⟩
theorem u8extra : U8Extra Tryd.prog u8ren := ⟨by kernel_rfl, by kernel_rfl, by kernel_rfl, by kernel_rfl, by kernel_rfl, by kernel_rfl, by kernel_rfl⟩
theorem gForms : Tryd.prog.globalNamed "millwright/ask.forms" = some 0 := by kernel_rfl
theorem gFormsType : (Tryd.prog.globals[0]?).map (·.type) = some 57 := by kernel_rfl
set_option maxRecDepth 100000 in
theorem fTab_of {W : World} {l : List (String × DataW Unit)} (h : laidMet Tryd.prog l W) (h1 : ("unicode/utf8.first", Lib.firstData) ∈ l) (h2 : ("unicode/utf8.acceptRanges", Lib.acceptData) ∈ l) (h3 : ("millwright/ask.forms", Rows.laid_millwright_ask_forms) ∈ l) : FTab W := by
  obtain ⟨g, t, cs, fuel, p, hg, hty, hvar, hd⟩ := Lib.laidMet.reads h h3
  obtain rfl := Option.some.inj (gForms.symm.trans hg)
  obtain rfl := Option.some.inj (gFormsType.symm.trans hty)
  have hat : ∀ k : Nat, 1 ≤ k → k ≤ 15 → W.cell? ⟨0, k * 4, none⟩ = some (.int .i64 (manyK k : Nat)) ∧ W.cell? ⟨0, k * 4 + 1, none⟩ = some (.bool (namedK k)) ∧ W.cell? ⟨0, k * 4 + 2, none⟩ = some (.bool (numK k)) ∧ W.cell? ⟨0, k * 4 + 3, none⟩ = some (.string ⟨(wordK k).toArray⟩) := fun k hk1 hk2 => by
    obtain ⟨fuel', d, q, hdi, he⟩ := Lib.array_elem Tryd.underlying57 hd k (by omega)
    rw [cellsForm] at he
    have hfin : (cs.toList.drop (k * 4)).take 4 = [.int .i64 (manyK k : Nat), .bool (namedK k), .bool (numK k), .string ⟨(wordK k).toArray⟩] := by
      have hd' : d = .agg [.lit (.int .i64 (manyK k : Nat)), .lit (.bool (namedK k)), .lit (.bool (numK k)), .lit (.string (wordK k))] := by
        rcases (by omega : k = 1 ∨ k = 2 ∨ k = 3 ∨ k = 4 ∨ k = 5 ∨ k = 6 ∨ k = 7 ∨ k = 8 ∨ k = 9 ∨ k = 10 ∨ k = 11 ∨ k = 12 ∨ k = 13 ∨ k = 14 ∨ k = 15) with rfl | rfl | rfl | rfl | rfl | rfl | rfl | rfl | rfl | rfl | rfl | rfl | rfl | rfl | rfl <;> exact (Option.some.inj hdi).symm
      rw [hd'] at he
      exact form_cells he
    have hc : ∀ r, r < 4 → W.cell? ⟨0, k * 4 + r, none⟩ = ([.int .i64 (manyK k : Nat), .bool (namedK k), .bool (numK k), .string ⟨(wordK k).toArray⟩] : List Value)[r]? := fun r hr => by
      rw [World.var?_cell hg hvar (k * 4 + r), ← hfin, List.getElem?_take, if_pos hr, List.getElem?_drop, Array.getElem?_toList]
    exact ⟨hc 0 (by decide), hc 1 (by decide), hc 2 (by decide), hc 3 (by decide)⟩
  exact ⟨utf8Tabs_of_readsT u8types u8extra (Lib.laidMet.reads h h1) (Lib.laidMet.reads h h2), lt_of_cell' (hat 1 (by decide) (by decide)).1, hat⟩
end Go.Proofs.YtcodncddaemhlaaDoor
/- An ask that comes in: opened; its parts and its names' lengths by the reading's bulk. No condition. -/
namespace Go.Proofs.YtcodncddaemhlaaDoor
open Go.RowKit Go.WideShapes Go.ChangeShapes Go.ChangeAt Go.Deep

theorem fam_listA {α : Type} {q : Nat → α → Prop} : ∀ (len : Nat), (∀ i, i < len → ∃ x, q i x) → ∃ l : List α, l.length = len ∧ ∀ i, i < len → ∃ x, l[i]? = some x ∧ q i x
  | 0, _ => ⟨[], rfl, fun i hi => absurd hi (Nat.not_lt_zero _)⟩
  | k + 1, h => by
    obtain ⟨l, hl1, hl2⟩ := fam_listA k (fun i hi => h i (by omega))
    obtain ⟨x, hx⟩ := h k (by omega)
    refine ⟨l ++ [x], by simp [hl1], fun i hi => ?_⟩
    rcases Nat.lt_or_ge i k with h1 | h1
    · obtain ⟨y, hy1, hy2⟩ := hl2 i h1
      exact ⟨y, by rw [List.getElem?_append_left (by omega)]; exact hy1, hy2⟩
    · obtain rfl : i = k := by omega
      exact ⟨x, by rw [List.getElem?_append_right (by omega), hl1]; simp, hx⟩
theorem sum_bulk {H : Type} : ∀ (X : List AskT) (ds : List (DataW H)), X.length = ds.length → (∀ (i : Nat) (x : AskT) (d : DataW H), X[i]? = some x → ds[i]? = some d → sizeA x ≤ Rows.uptoBulk d) → (X.map sizeA).sum ≤ Rows.uptoBulkAll ds
  | [], [], _, _ => by simp [Rows.uptoBulkAll]
  | [], _ :: _, h, _ => by simp at h
  | _ :: _, [], h, _ => by simp at h
  | x :: X, d :: ds, h, hi => by
    have h1 := sum_bulk X ds (by simpa using h) (fun i y e hy he => hi (i + 1) y e (by simpa using hy) (by simpa using he))
    have h2 := hi 0 x d rfl rfl
    simp only [List.map_cons, List.sum_cons, Rows.uptoBulkAll]
    omega
theorem mem_bulk {H : Type} {d : DataW H} : ∀ {l : List (DataW H)}, d ∈ l → Rows.uptoBulk d ≤ Rows.uptoBulkAll l
  | x :: r, h => by
    simp only [Rows.uptoBulkAll]
    rcases List.mem_cons.1 h with rfl | h
    · omega
    · have := mem_bulk h; omega
theorem trod_numA {H : Type} {enc : TypeId × Value → H} {P : Program} {W : World} {n : Nat} {e : TypeId} {k : IntKind} {V : Value} {D : DataW H × List MemPlace} (he : P.underlying e = some (.int k)) (h : DataW.trod enc P W 0 (fun _ => true) true n e [V] = some D) : ∃ z, V = .int k z := by
  cases n with
  | zero => simp [DataW.trod] at h
  | succ n =>
    simp only [DataW.trod, he] at h
    cases V <;> simp at h
    rename_i k' z
    obtain ⟨⟨rfl, hw⟩, _⟩ := h
    exact ⟨z, rfl⟩
theorem cellsA_ : Tryd.prog.cellsOf 24 = 4 := by kernel_rfl
theorem cellsAs : Tryd.prog.cellsOf 22 = 1 := by kernel_rfl
theorem cellsAI : Tryd.prog.cellsOf 3 = 1 := by kernel_rfl
theorem cellsAS : Tryd.prog.cellsOf 9 = 1 := by kernel_rfl
set_option maxRecDepth 100000 in
theorem open_askT {H : Type} {enc : TypeId × Value → H} {W : World} : ∀ (fuel : Nat) (cs : List Value) (x : DataW H × List MemPlace), DataW.trod enc Tryd.prog W 0 (fun _ => true) true fuel 24 cs = some x →
    ∃ (y : AskT) (A : Option Addr) (c : Nat), cs = [.int .i64 y.kind, .string ⟨y.name.toArray⟩, .int .i64 y.n, .slice A y.X.length c] ∧ AskAt W y A c ∧ sizeA y ≤ Rows.uptoBulk x.1 ∧ (Rows.uptoBulk x.1 ≤ 1048576 → AskOk y) := by
  intro fuel
  induction fuel using Nat.strongRecOn with
  | ind fuel ih =>
  intro cs x hf
  obtain ⟨xs, k, hk, rfl, hlen, hxl, hfl⟩ := DataW.trod_struct Tryd.underlying24 hf
  rw [cellsA_] at hlen
  obtain ⟨a0, a1, a2, a3, rfl⟩ : ∃ a0 a1 a2 a3, cs = [a0, a1, a2, a3] := by
    match cs, hlen with
    | [a0, a1, a2, a3], _ => exact ⟨a0, a1, a2, a3, rfl⟩
  obtain ⟨y0, y1, y2, y3, rfl⟩ : ∃ y0 y1 y2 y3, xs = [y0, y1, y2, y3] := by
    match xs, hxl with
    | [y0, y1, y2, y3], _ => exact ⟨y0, y1, y2, y3, rfl⟩
  have g0 : DataW.trod enc Tryd.prog W 0 (fun _ => true) true k 3 [a0] = some y0 := by simpa [cellsAI] using hfl 0 _ rfl
  have g1 : DataW.trod enc Tryd.prog W 0 (fun _ => true) true k 9 [a1] = some y1 := by simpa [cellsAS] using hfl 1 _ rfl
  have g2 : DataW.trod enc Tryd.prog W 0 (fun _ => true) true k 3 [a2] = some y2 := by simpa [cellsAI] using hfl 2 _ rfl
  have g3 : DataW.trod enc Tryd.prog W 0 (fun _ => true) true k 22 [a3] = some y3 := by simpa [cellsAs] using hfl 3 _ rfl
  obtain ⟨n0, rfl⟩ := trod_numA Tryd.underlying3 g0
  obtain ⟨n2, rfl⟩ := trod_numA Tryd.underlying3 g2
  obtain ⟨s1, h1, rfl, _⟩ := DataW.trod_string Tryd.underlying9 g1
  injection h1 with h1 _
  subst h1
  have hb0 : ∀ d3 : DataW H, Rows.uptoBulkAll [y0.1, .lit (.string s1.data.toList), y2.1, d3] = Rows.uptoBulk y0.1 + (s1.data.toList.length + 1) + Rows.uptoBulk y2.1 + Rows.uptoBulk d3 := fun d3 => by
    simp only [Rows.uptoBulkAll, Rows.uptoBulk]
    omega
  have hs : (⟨s1.data.toList.toArray⟩ : ByteArray) = s1 := by rw [Array.toArray_toList]
  rcases DataW.trod_slice Tryd.underlying22 g3 with ⟨h3, hx3⟩ | ⟨a, len, cap, elems, rest, n, hn, h3, hx3, hb, hl, hm, hel, hat, _⟩
  · injection h3 with h3 _
    subst h3
    refine ⟨.mk n0 s1.data.toList n2 [], none, 0, ?_, .mk [] rfl (by simp) (Rd.nil_ _ _) (fun i x a hx _ => by simp at hx), ?_, fun hu => .mk ?_ (fun y hy => by cases hy)⟩
    · show _ = [Value.int .i64 n0, .string ⟨s1.data.toList.toArray⟩, .int .i64 n2, .slice none 0 0]
      rw [hs]
    · rw [sizeA_mk, hx3]
      show _ ≤ Rows.uptoBulk (DataW.agg [y0.1, .lit (.string s1.data.toList), y2.1, .nil])
      simp only [Rows.uptoBulk, hb0, List.map_nil, List.sum_nil]
      omega
    · rw [hx3] at hu
      have hu' : Rows.uptoBulk (DataW.agg [y0.1, .lit (.string s1.data.toList), y2.1, .nil]) ≤ 1048576 := hu
      simp only [Rows.uptoBulk, hb0] at hu'
      omega
  · injection h3 with h3 _
    subst h3
    obtain ⟨L, hL1, hL2⟩ := fam_listA (q := fun i (p : AskT × (Option Addr × Nat)) => ∃ (e : DataW H × List MemPlace), elems[i]? = some e ∧ W.cells? 0 (a.add (i * 4)) 4 = some [.int .i64 p.1.kind, .string ⟨p.1.name.toArray⟩, .int .i64 p.1.n, .slice p.2.1 p.1.X.length p.2.2] ∧ AskAt W p.1 p.2.1 p.2.2 ∧ sizeA p.1 ≤ Rows.uptoBulk e.1 ∧ (Rows.uptoBulk e.1 ≤ 1048576 → AskOk p.1)) len (fun i hi => by
      obtain ⟨e, he⟩ : ∃ e, elems[i]? = some e := ⟨elems[i]'(by omega), List.getElem?_eq_getElem (by omega)⟩
      obtain ⟨cs', hcs, htr⟩ := Option.bind_eq_some_iff.1 ((hat i hi).trans he)
      obtain ⟨z, A', c', hz, h1, h2, h3⟩ := ih n (by omega) cs' e htr
      rw [cellsA_] at hcs
      exact ⟨(z, A', c'), e, he, by rw [hcs, hz], h1, h2, h3⟩)
    have hXl : (L.map (·.1)).length = len := by rw [List.length_map, hL1]
    have hcl : (L.map (·.2)).length = (L.map (·.1)).length := by simp
    have hat2 : ∀ (i : Nat) (p : AskT × (Option Addr × Nat)), L[i]? = some p → ∃ (e : DataW H × List MemPlace), elems[i]? = some e ∧ W.cells? 0 (a.add (i * 4)) 4 = some [.int .i64 p.1.kind, .string ⟨p.1.name.toArray⟩, .int .i64 p.1.n, .slice p.2.1 p.1.X.length p.2.2] ∧ AskAt W p.1 p.2.1 p.2.2 ∧ sizeA p.1 ≤ Rows.uptoBulk e.1 ∧ (Rows.uptoBulk e.1 ≤ 1048576 → AskOk p.1) := fun i p hp => by
      obtain ⟨p', hp', hq⟩ := hL2 i (by rw [← hL1]; exact (List.getElem?_eq_some_iff.1 hp).1)
      rw [hp] at hp'
      injection hp' with hp'
      subst hp'
      exact hq
    have hsum : ((L.map (·.1)).map sizeA).sum ≤ Rows.uptoBulkAll (elems.map (·.1)) := sum_bulk _ _ (by rw [hXl, List.length_map, hel]) (fun i x d hx hd => by
      rw [List.getElem?_map] at hx hd
      obtain ⟨p, hp, rfl⟩ := Option.map_eq_some_iff.1 hx
      obtain ⟨e, he, rfl⟩ := Option.map_eq_some_iff.1 hd
      obtain ⟨e', he', _, _, h4, _⟩ := hat2 i p hp
      rw [he] at he'
      injection he' with he'
      subst he'
      exact h4)
    have hrd : Rd W (some a) (cellsA (L.map (·.1)) (L.map (·.2))) := fun hpos => by
      have hlp : 0 < len := by
        rw [cellsA_len _ _ hcl, hXl] at hpos
        omega
      obtain ⟨b, off, ext⟩ := a
      have hcell : ∀ (i : Nat) (p : AskT × (Option Addr × Nat)), L[i]? = some p → ∀ (r : Nat) (v : Value), r < 4 → ([.int .i64 p.1.kind, .string ⟨p.1.name.toArray⟩, .int .i64 p.1.n, .slice p.2.1 p.1.X.length p.2.2] : List Value)[r]? = some v → W.cell? (((⟨b, off, ext⟩ : Addr).add (i * 4)).add r) = some v := fun i p hp r v hr hv => by
        obtain ⟨e, _, hcs, _⟩ := hat2 i p hp
        obtain ⟨_, _, hc⟩ := World.cells?_some hcs
        rw [hc r hr]
        exact hv
      have hext : ext = none := by
        obtain ⟨p, hp, _⟩ := hL2 0 hlp
        have := hcell 0 p hp 0 _ (by decide) rfl
        exact World.cell?_spot (by simpa [Addr.add] using this)
      subst hext
      have hcell' : ∀ (i : Nat) (p : AskT × (Option Addr × Nat)), L[i]? = some p → ∀ (r : Nat) (v : Value), r < 4 → ([.int .i64 p.1.kind, .string ⟨p.1.name.toArray⟩, .int .i64 p.1.n, .slice p.2.1 p.1.X.length p.2.2] : List Value)[r]? = some v → W.cell? ⟨b, off + (4 * i + r), none⟩ = some v := fun i p hp r v hr hv => by
        have := hcell i p hp r v hr hv
        have e : (((⟨b, off, none⟩ : Addr).add (i * 4)).add r) = ⟨b, off + (4 * i + r), none⟩ := by
          unfold Addr.add
          by_cases h1 : i * 4 = 0 <;> by_cases h2 : r = 0 <;> simp [h1, h2] <;> omega
        rwa [e] at this
      obtain ⟨p0, hp0, _⟩ := hL2 0 hlp
      refine ⟨b, off, rfl, lt_of_cell' (hcell' 0 p0 hp0 0 _ (by decide) rfl), fun j u hu => ?_⟩
      have hj : j < 4 * len := by
        have := (List.getElem?_eq_some_iff.1 hu).1
        rw [cellsA_len _ _ hcl, hXl] at this
        exact this
      obtain ⟨p, hp, _⟩ := hL2 (j / 4) (by omega)
      obtain ⟨q0, q1, q2, q3⟩ := cellsA_at (L.map (·.1)) (L.map (·.2)) (j / 4) p.1 p.2 (by rw [List.getElem?_map, hp]; rfl) (by rw [List.getElem?_map, hp]; rfl)
      rw [show j = 4 * (j / 4) + j % 4 by omega] at hu ⊢
      have hr : j % 4 < 4 := Nat.mod_lt _ (by decide)
      generalize j / 4 = i at *
      generalize j % 4 = r at *
      rcases (by omega : r = 0 ∨ r = 1 ∨ r = 2 ∨ r = 3) with rfl | rfl | rfl | rfl
      · rw [Nat.add_zero, q0] at hu; exact hcell' i p hp 0 u (by decide) hu
      · rw [q1] at hu; exact hcell' i p hp 1 u (by decide) hu
      · rw [q2] at hu; exact hcell' i p hp 2 u (by decide) hu
      · rw [q3] at hu; exact hcell' i p hp 3 u (by decide) hu
    refine ⟨.mk n0 s1.data.toList n2 (L.map (·.1)), some a, cap, ?_, .mk (L.map (·.2)) hcl (by rw [hXl]; exact hl) hrd (fun i x ac hx hac => ?_), ?_, fun hu => .mk ?_ (fun y hy => ?_)⟩
    · show _ = [Value.int .i64 n0, .string ⟨s1.data.toList.toArray⟩, .int .i64 n2, .slice (some a) (L.map (·.1)).length cap]
      rw [hs, hXl]
    · rw [List.getElem?_map] at hx hac
      obtain ⟨p, hp, rfl⟩ := Option.map_eq_some_iff.1 hx
      rw [hp] at hac
      injection hac with hac
      subst hac
      obtain ⟨_, _, _, h, _⟩ := hat2 i p hp
      exact h
    · rw [sizeA_mk, hx3]
      show _ ≤ Rows.uptoBulk (DataW.agg [y0.1, .lit (.string s1.data.toList), y2.1, .slice (elems.map (·.1)) (rest.map (·.1))])
      simp only [Rows.uptoBulk, hb0]
      omega
    · rw [hx3] at hu
      have hu' : Rows.uptoBulk (DataW.agg [y0.1, .lit (.string s1.data.toList), y2.1, .slice (elems.map (·.1)) (rest.map (·.1))]) ≤ 1048576 := hu
      simp only [Rows.uptoBulk, hb0] at hu'
      omega
    · rw [hx3] at hu
      have hu' : Rows.uptoBulk (DataW.agg [y0.1, .lit (.string s1.data.toList), y2.1, .slice (elems.map (·.1)) (rest.map (·.1))]) ≤ 1048576 := hu
      simp only [Rows.uptoBulk, hb0] at hu'
      obtain ⟨p, hp, rfl⟩ := List.mem_map.1 hy
      obtain ⟨i, hi⟩ := List.mem_iff_getElem?.1 hp
      obtain ⟨e, he, _, _, _, h5⟩ := hat2 i p hi
      have := mem_bulk (List.mem_map.2 ⟨e, List.mem_of_getElem? he, rfl⟩ : e.1 ∈ elems.map (·.1))
      exact h5 (by omega)
set_option maxRecDepth 100000 in
theorem open_ask {H : Type} {enc : TypeId × Value → H} {W : World} {base : Nat} {v : Value} {d : DataW H} {ps : List MemPlace}
    (hok : Value.okWide Tryd.prog W .any base 24 v) (h : DataW.Trod enc Tryd.prog W 0 (fun _ => true) true 24 v d ps) :
    ∃ (x : AskT) (A : Option Addr) (c : Nat), v = askV x A c ∧ AskAt W x A c ∧ sizeA x ≤ Rows.uptoBulk d ∧ (Rows.uptoBulk d ≤ 1048576 → AskOk x) := by
  obtain ⟨cs, rfl, hsz⟩ := okWide_struct Tryd.underlying24 hok
  obtain ⟨fuel, hf⟩ := h
  obtain ⟨y, A, c, he, h1, h2, h3⟩ := open_askT fuel _ _ hf
  refine ⟨y, A, c, ?_, h1, h2, h3⟩
  obtain ⟨l⟩ := cs
  have he' : l = [.int .i64 y.kind, .string ⟨y.name.toArray⟩, .int .i64 y.n, .slice A y.X.length c] := he
  subst he'
  rfl
end Go.Proofs.YtcodncddaemhlaaDoor

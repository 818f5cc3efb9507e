/- A reason that comes in: opened. No condition. -/
import Derived.Test.YtecbdamimnllnaaDoorOpenG
import Derived.Test.YtecbdamimnllnaaDoorWhyPlain
import Derived.Lib.LaidTab
namespace Go.Proofs.YtecbdamimnllnaaDoor
open Go.RowKit Go.WideShapes Go.ChangeShapes Go.ChangeAt Go.Deep

theorem cellsW : Tryd.prog.cellsOf 32 = 4 := by kernel_rfl
theorem cellsWs : Tryd.prog.cellsOf 30 = 1 := by kernel_rfl
theorem why_one (w : World) (e : WV) (hm : e.m = 0) : WhyCh w [e] := ⟨fun i e' hi _ => by
    cases i with
    | zero => rfl
    | succ i => simp at hi, fun i e' hi h => by
    cases i with
    | zero => simp at hi; subst hi; exact absurd hm h
    | succ i => simp at hi⟩
theorem why_more {w : World} {e e' : WV} {L : List WV} {b off : Nat} (h : WhyCh w L) (h0 : L[0]? = some e') (hm : e.m ≠ 0) (hA : e.A = some ⟨b, off, none⟩)
    (h1 : w.cell? ⟨b, off, none⟩ = some (.int .i64 e'.n)) (h2 : w.cell? ⟨b, off + 1, none⟩ = some (.int .i64 e'.c)) (h3 : w.cell? ⟨b, off + 2, none⟩ = some (.int .i64 e'.k)) (h4 : w.cell? ⟨b, off + 3, none⟩ = some (.slice e'.A e'.m e'.cap)) : WhyCh w (e :: L) := ⟨fun i x hi hx => by
    cases i with
    | zero => simp at hi; subst hi; exact absurd hx hm
    | succ i => simp at hi; have := h.last i x hi hx; simp; omega, fun i x hi hx => by
    cases i with
    | zero => simp at hi; subst hi; exact ⟨b, off, e', hA, by simpa using h0, h1, h2, h3, h4⟩
    | succ i =>
      simp at hi
      obtain ⟨b', off', e'', g1, g2, g3⟩ := h.next i x hi hx
      exact ⟨b', off', e'', g1, by simpa using g2, g3⟩⟩
set_option maxRecDepth 100000 in
theorem open_chain {H : Type} {enc : TypeId × Value → H} {W : World} : ∀ (fuel : Nat) (cs : List Value) (x : DataW H × List MemPlace), DataW.trod enc Tryd.prog W 0 (fun _ => true) true fuel 32 cs = some x → ∃ (e : WV) (L : List WV), cs = e.cs ∧ L[0]? = some e ∧ WhyCh W L := by
  intro fuel
  induction fuel using Nat.strongRecOn with
  | ind fuel ih =>
  intro cs x hf
  obtain ⟨xs, k, hk, rfl, hlen, hxl, hfl⟩ := DataW.trod_struct Tryd.underlying32 hf
  rw [cellsW] at hlen
  obtain ⟨a0, a1, a2, a3, rfl⟩ : ∃ a0 a1 a2 a3, cs = [a0, a1, a2, a3] := by
    match cs, hlen with
    | [a0, a1, a2, a3], _ => exact ⟨a0, a1, a2, a3, rfl⟩
  obtain ⟨y0, y1, y2, y3, rfl⟩ : ∃ y0 y1 y2 y3, xs = [y0, y1, y2, y3] := by
    match xs, hxl with
    | [y0, y1, y2, y3], _ => exact ⟨y0, y1, y2, y3, rfl⟩
  have g0 : DataW.trod enc Tryd.prog W 0 (fun _ => true) true k 3 [a0] = some y0 := by simpa [cellsI] using hfl 0 _ rfl
  have g1 : DataW.trod enc Tryd.prog W 0 (fun _ => true) true k 3 [a1] = some y1 := by simpa [cellsI] using hfl 1 _ rfl
  have g2 : DataW.trod enc Tryd.prog W 0 (fun _ => true) true k 3 [a2] = some y2 := by simpa [cellsI] using hfl 2 _ rfl
  have g3 : DataW.trod enc Tryd.prog W 0 (fun _ => true) true k 30 [a3] = some y3 := by simpa [cellsWs] using hfl 3 _ rfl
  obtain ⟨n0, rfl, _⟩ := trod_num Tryd.underlying3 g0
  obtain ⟨n1, rfl, _⟩ := trod_num Tryd.underlying3 g1
  obtain ⟨n2, rfl, _⟩ := trod_num Tryd.underlying3 g2
  rcases DataW.trod_slice Tryd.underlying30 g3 with ⟨h3, _⟩ | ⟨a, len, cap, elems, rest, n, hn, h3, _, hb, hl, hm, hel, hat, _⟩
  · injection h3 with h3 _
    subst h3
    exact ⟨⟨n0, n1, n2, none, 0, 0⟩, [⟨n0, n1, n2, none, 0, 0⟩], rfl, rfl, why_one _ _ rfl⟩
  · injection h3 with h3 _
    subst h3
    by_cases hz : len = 0
    · subst hz
      exact ⟨⟨n0, n1, n2, some a, 0, cap⟩, [⟨n0, n1, n2, some a, 0, cap⟩], rfl, rfl, why_one _ _ rfl⟩
    · obtain ⟨y, hy⟩ : ∃ y, elems[0]? = some y := ⟨elems[0]'(by omega), List.getElem?_eq_getElem (by omega)⟩
      obtain ⟨cs', hcs, htr⟩ := Option.bind_eq_some_iff.1 ((hat 0 (by omega)).trans hy)
      obtain ⟨e', L', rfl, h0, hw⟩ := ih n (by omega) cs' y htr
      rw [cellsW] at hcs
      obtain ⟨_, _, hcell⟩ := World.cells?_some hcs
      obtain ⟨b, off, ext⟩ := a
      have q0 := hcell 0 (by omega)
      have q1 := hcell 1 (by omega)
      have q2 := hcell 2 (by omega)
      have q3 := hcell 3 (by omega)
      simp [Addr.add, WV.cs] at q0 q1 q2 q3
      have hext : ext = none := World.cell?_spot q0
      subst hext
      exact ⟨⟨n0, n1, n2, some ⟨b, off, none⟩, len, cap⟩, ⟨n0, n1, n2, some ⟨b, off, none⟩, len, cap⟩ :: L', rfl, rfl, why_more hw h0 hz rfl q0 q1 q2 q3⟩
set_option maxRecDepth 100000 in
theorem open_why {H : Type} {enc : TypeId × Value → H} {W : World} {base : Nat} {v : Value} {d : DataW H} {ps : List MemPlace}
    (hok : Value.okWide Tryd.prog W .any base 32 v) (h : DataW.Trod enc Tryd.prog W 0 (fun _ => true) true 32 v d ps) :
    ∃ (e : WV) (L : List WV), v = wvv e ∧ WhyCh W L ∧ L[0]? = some e := by
  obtain ⟨cs, rfl, hsz⟩ := okWide_struct Tryd.underlying32 hok
  obtain ⟨fuel, hf⟩ := h
  obtain ⟨e, L, he, h0, hw⟩ := open_chain fuel _ _ hf
  refine ⟨e, L, ?_, hw, h0⟩
  obtain ⟨l⟩ := cs
  have he' : l = e.cs := he
  subst he'
  rfl
/-- A laid array of strings holds them, cell for cell. -/
theorem cells_of_strs {H : Type} {enc : TypeId × Value → H} {P : Program} {w : World} {base : Nat} {sp : Nat → Bool} {held : Bool} {fuel : Nat} {t e : TypeId} {n : Nat} {cs : List Value} {ss : List (List UInt8)} {p : List MemPlace}
    (ht : P.underlying t = some (.array n e)) (he : P.underlying e = some .string) (hce : P.cellsOf e = 1) (hct : P.cellsOf t = n)
    (h : DataW.trod enc P w base sp held fuel t cs = some (.agg (ss.map fun s => .lit (.string s)), p)) : cs = ss.map sv := by
  cases fuel with
  | zero => simp [DataW.trod] at h
  | succ fuel =>
    simp only [DataW.trod, ht, hce, hct, Nat.mul_one] at h
    split at h
    · rename_i hl
      obtain ⟨xs, hm, hx⟩ := Option.map_eq_some_iff.1 h
      have hxs : xs.map (·.1) = ss.map fun s => (DataW.lit (.string s) : DataW H) := by simpa using congrArg Prod.fst hx
      have hxl : xs.length = n := by simpa using Lib.mapM_length hm
      have hsl : ss.length = n := by
        have := congrArg List.length hxs
        simp at this
        omega
      apply List.ext_getElem?
      intro i
      by_cases hi : i < n
      · obtain ⟨b, hb, hf⟩ := Lib.mapM_at hm i i (by simp [hi])
        obtain ⟨q, hc, rfl, _⟩ := DataW.trod_string he hf
        have h1 : cs[i]? = some (.string q) := by
          have := congrArg (·[0]?) hc
          simpa [List.getElem?_take, List.getElem?_drop] using this
        have h2 : (xs.map (·.1))[i]? = some (DataW.lit (.string q.data.toList) : DataW H) := by simp [hb]
        rw [hxs] at h2
        simp only [List.getElem?_map, Option.map_eq_some_iff, DataW.lit.injEq, Lit.string.injEq] at h2
        obtain ⟨s, hs, rfl⟩ := h2
        rw [List.getElem?_map, hs, h1]
        rfl
      · rw [List.getElem?_eq_none (by omega), List.getElem?_eq_none (by simp; omega)]
    · cases h
theorem strs_of_head {P : Program} {W : World} {name : String} {ss : List (List UInt8)} {rest : List (String × DataW Unit)} {g : Nat} {t e : TypeId} {n : Nat}
    (hg : P.globalNamed name = some g) (hty : (P.globals[g]?).map (·.type) = some t) (ht : P.underlying t = some (.array n e)) (he : P.underlying e = some .string) (hce : P.cellsOf e = 1) (hct : P.cellsOf t = n)
    (h : laidMet P ((name, .agg (ss.map fun s => .lit (.string s))) :: rest) W) (i : Nat) : W.cell? ⟨g, i, none⟩ = (ss[i]?).map sv := by
  obtain ⟨ps, ⟨g', t', cs, fuel, p, q, hg', ht', hvar, hd, _, _⟩, _⟩ := h
  obtain rfl := Option.some.inj (hg.symm.trans hg')
  obtain rfl := Option.some.inj (hty.symm.trans ht')
  have hcs := cells_of_strs ht he hce hct hd
  rw [World.var?_cell hg hvar i, ← Array.getElem?_toList, hcs, List.getElem?_map]
end Go.Proofs.YtecbdamimnllnaaDoor

/- Macros, plain: the rows of what calls for what; the order of the reference is whole exactly where nothing calls for itself; rounds of MacroFlat. No program in sight. -/
import Derived.Test.YtoandhhkmkgmaaaMg22
import Derived.Test.YtoandhhkmkgmaaaMg36
namespace Go.Proofs.Ytoandhhkmkgmaaa

theorem pigM : ∀ (L m : List (List UInt8)), L.Nodup → (∀ x ∈ L, x ∈ m) → L.length ≤ m.length
  | [], _, _, _ => by simp
  | x :: L, m, hn, hs => by
    obtain ⟨h1, h2⟩ := List.nodup_cons.1 hn
    have := pigM L (m.erase x) h2 (fun y hy => (List.mem_erase_of_ne (fun e => h1 (by rw [← e]; exact hy))).2 (hs y (List.mem_cons_of_mem _ hy)))
    have hx := hs x (List.mem_cons_self ..)
    rw [List.length_erase_of_mem hx] at this
    have := List.length_pos_of_mem hx
    rw [List.length_cons]
    omega
theorem pigM_eq {L m : List (List UInt8)} (hn : L.Nodup) (hs : ∀ x ∈ L, x ∈ m) (hl : m.length ≤ L.length) : ∀ x ∈ m, x ∈ L := by
  intro x hx
  apply Classical.byContradiction
  intro hc
  have h1 : (x :: L).Nodup := List.nodup_cons.2 ⟨hc, hn⟩
  have := pigM (x :: L) m h1 (fun y hy => by
    rcases List.mem_cons.1 hy with rfl | hy
    · exact hx
    · exact hs y hy)
  rw [List.length_cons] at this
  omega
/-- Row i tells which names macro i calls for. -/
structure RowsM (l : List MacT) (r : List Nat) : Prop where
  len : r.length = l.length
  bit : ∀ i n v, l[i]? = some (n, v) → ∀ k, (rowAt r i).testBit k = true ↔ ∃ u, (namesL l)[k]? = some u ∧ u ∈ usesOf v
theorem names_at {l : List MacT} {i : Nat} {m : MacT} (h : l[i]? = some m) : (namesL l)[i]? = some m.1 := by unfold namesL; rw [List.getElem?_map, h]; rfl
theorem names_of {l : List MacT} {i : Nat} {n : List UInt8} (h : (namesL l)[i]? = some n) : ∃ v, l[i]? = some (n, v) := by
  unfold namesL at h
  rw [List.getElem?_map] at h
  obtain ⟨⟨a, v⟩, h1, h2⟩ := Option.map_eq_some_iff.1 h
  simp only at h2
  subst h2
  exact ⟨v, h1⟩
theorem names_len (l : List MacT) : (namesL l).length = l.length := by unfold namesL; simp
theorem names_once {l : List MacT} (hn : (namesL l).Nodup) {i j : Nat} {n : List UInt8} (hi : (namesL l)[i]? = some n) (hj : (namesL l)[j]? = some n) : i = j :=
  (List.getElem?_inj (List.getElem?_eq_some_iff.1 hi).1 hn).1 (hi.trans hj.symm)
theorem val_once {l : List MacT} (hn : (namesL l).Nodup) {n v v' : List UInt8} (h : (n, v) ∈ l) (h' : (n, v') ∈ l) : v = v' := by
  obtain ⟨i, hi⟩ := List.mem_iff_getElem?.1 h
  obtain ⟨j, hj⟩ := List.mem_iff_getElem?.1 h'
  have h1 : (namesL l)[i]? = some n := names_at hi
  have h2 : (namesL l)[j]? = some n := names_at hj
  have := names_once hn h1 h2
  subst this
  rw [hi] at hj
  injection hj with hj
  injection hj
theorem RowsM.good {l : List MacT} {r : List Nat} (h : RowsM l r) (hl : l.length ≤ 64) : Good r := by
  refine ⟨by rw [h.len]; exact hl, fun i j hj => ?_⟩
  rw [h.len]
  by_cases hi : i < l.length
  · obtain ⟨⟨n, v⟩, hm⟩ : ∃ m, l[i]? = some m := ⟨_, List.getElem?_eq_getElem hi⟩
    obtain ⟨u, hu, _⟩ := (h.bit i n v hm j).1 hj
    have := (List.getElem?_eq_some_iff.1 hu).1
    rwa [names_len] at this
  · unfold rowAt at hj
    rw [List.getElem?_eq_none (by rw [h.len]; omega)] at hj
    simp at hj
theorem tidy_order {l : List MacT} {r : List Nat} (h : RowsM l r) (hl : l.length ≤ 64) (hn : (namesL l).Nodup) (hno : noneL l = false) : TidyM l ↔ (ordL r).length = l.length := by
  have hg := h.good hl
  rw [← h.len, ord_full hg]
  constructor
  · intro ht
    have hb := (ordL_inv hg).b64 hg.1
    have key : ∀ n, Acc (CallsM l) n → ∀ j, (namesL l)[j]? = some n → (ordR r).testBit j = false := by
      intro n ha
      induction ha with
      | intro n _ ih =>
        intro j hj
        cases hq : (ordR r).testBit j with
        | false => rfl
        | true =>
          have h0 := (pickO_none hb).1 (ord_end hg) j hq
          obtain ⟨v, hv⟩ := names_of hj
          exfalso
          apply h0
          apply set_ext
          intro k
          rw [Nat.testBit_and, Nat.zero_testBit]
          cases hk : (rowAt r j).testBit k with
          | false => rfl
          | true =>
            obtain ⟨u, hu, hu2⟩ := (h.bit j n v hv k).1 hk
            rw [ih u ⟨v, List.mem_of_getElem? hv, hu2⟩ k hu]
            rfl
    apply set_ext
    intro j
    rw [Nat.zero_testBit]
    by_cases hj : j < l.length
    · obtain ⟨m, hm⟩ : ∃ m, l[j]? = some m := ⟨_, List.getElem?_eq_getElem hj⟩
      exact key m.1 (ht m.1 (List.mem_of_getElem? (names_at hm))) j (names_at hm)
    · cases hq : (ordR r).testBit j with
      | false => rfl
      | true => exact absurd ((ordL_inv hg).sub j hq) (by rw [h.len]; exact hj)
  · intro hr n hm
    have key : ∀ (p i : Nat), (ordL r)[p]? = some i → ∀ n, (namesL l)[i]? = some n → Acc (CallsM l) n := by
      intro p
      induction p using Nat.strongRecOn with
      | _ p ih =>
        intro i hi n hin
        refine ⟨_, fun u hu => ?_⟩
        obtain ⟨v, hv, hu⟩ := hu
        obtain ⟨v', hv'⟩ := names_of hin
        have := val_once hn hv (List.mem_of_getElem? hv')
        subst this
        obtain ⟨k, hk⟩ := List.mem_iff_getElem?.1 (noneL_false hno hv hu)
        have hb := ord_before hg hi ((h.bit i n v hv' k).2 ⟨u, hk, hu⟩)
        obtain ⟨q, hq⟩ := List.mem_iff_getElem?.1 hb
        rw [List.getElem?_take] at hq
        split at hq
        · exact ih q (by assumption) k hq u hk
        · cases hq
    obtain ⟨i, hi⟩ := List.mem_iff_getElem?.1 hm
    have hil : i < r.length := by rw [h.len, ← names_len]; exact (List.getElem?_eq_some_iff.1 hi).1
    obtain ⟨p, hp⟩ := List.mem_iff_getElem?.1 ((ord_mem hg hr i).2 hil)
    exact key p i hp n hi

/-! ### Rounds of MacroFlat -/
/-- What has been done. -/
structure DoneM (l : List MacT) (fl : List UInt8 → Bool × List UInt8) (done : List MacT) : Prop where
  nodup : (namesL done).Nodup
  mem : ∀ m ∈ done, m.1 ∈ namesL l ∧ fl m.1 = (false, m.2)
def readyM (done : List MacT) (v : List UInt8) : Bool := (usesOf v).all fun u => inL (namesL done) u
theorem DoneM.len {l : List MacT} {fl : List UInt8 → Bool × List UInt8} {done : List MacT} (h : DoneM l fl done) : done.length ≤ l.length := by
  rw [← names_len done, ← names_len l]
  exact pigM _ _ h.nodup (fun n hn => by
    obtain ⟨m, hm, rfl⟩ := List.mem_map.1 hn
    exact (h.mem m hm).1)
theorem DoneM.nil (l : List MacT) (fl : List UInt8 → Bool × List UInt8) : DoneM l fl [] := ⟨by simp [namesL], by simp⟩
theorem DoneM.snoc {l : List MacT} {fl : List UInt8 → Bool × List UInt8} {done : List MacT} (h : DoneM l fl done) {n s : List UInt8} (hn : n ∈ namesL l) (hd : n ∉ namesL done) (hf : fl n = (false, s)) : DoneM l fl (done ++ [(n, s)]) := by
  refine ⟨?_, fun m hm => ?_⟩
  · unfold namesL
    rw [List.map_append, List.nodup_append]
    exact ⟨h.nodup, by simp, fun a ha b hb e => by
      simp only [List.map_cons, List.map_nil, List.mem_singleton] at hb
      subst hb; subst e; exact hd ha⟩
  · rcases List.mem_append.1 hm with hm | hm
    · exact h.mem m hm
    · rw [List.mem_singleton.1 hm]; exact ⟨hn, hf⟩
/-- Where nothing calls for itself and not all is done, one more can be done. -/
theorem ready_some {l : List MacT} {done : List MacT} (hno : noneL l = false) {n : List UInt8} (ha : Acc (CallsM l) n) : n ∈ namesL l → n ∉ namesL done → ∃ m ∈ l, m.1 ∉ namesL done ∧ readyM done m.2 = true := by
  induction ha with
  | intro n _ ih =>
    intro hn hd
    obtain ⟨⟨a, v⟩, hv, rfl⟩ := List.mem_map.1 hn
    by_cases hr : readyM done v = true
    · exact ⟨(a, v), hv, hd, hr⟩
    · unfold readyM at hr
      rw [List.all_eq_true] at hr
      simp only [Classical.not_forall] at hr
      obtain ⟨u, hu, hu2⟩ := hr
      exact ih u ⟨v, hv, hu⟩ (noneL_false hno hv hu) (by unfold inL at hu2; simpa using hu2)
theorem done_all {l : List MacT} {fl : List UInt8 → Bool × List UInt8} {done : List MacT} (h : DoneM l fl done) (hlen : l.length ≤ done.length) : ∀ n ∈ namesL l, n ∈ namesL done := by
  exact pigM_eq h.nodup (fun n hn => by
    obtain ⟨m, hm, rfl⟩ := List.mem_map.1 hn
    exact (h.mem m hm).1) (by rw [names_len, names_len]; exact hlen)
theorem not_done {l : List MacT} {done : List MacT} (hn : (namesL l).Nodup) (hlen : done.length < l.length) : ∃ n ∈ namesL l, n ∉ namesL done := by
  apply Classical.byContradiction
  intro h
  have hs : namesL l ⊆ namesL done := fun n hm => Classical.byContradiction fun hc => h ⟨n, hm, hc⟩
  have := pigM _ _ hn (fun x hx => hs hx)
  rw [names_len, names_len] at this
  omega
/-- The text of pieces, names put in. -/
def putIn (look : List UInt8 → List UInt8) (cs : List PieceM) : List UInt8 := cs.flatMap fun p => if p.1 = true then look p.2 else p.2
theorem putIn_text (fl : List UInt8 → Bool × List UInt8) (look : List UInt8 → List UInt8) {cs : List PieceM} (h : ∀ u, (true, u) ∈ cs → look u = (fl u).2) : putIn look cs = cs.flatMap (textM fl) := by
  unfold putIn
  induction cs with
  | nil => rfl
  | cons p l ih =>
    rw [List.flatMap_cons, List.flatMap_cons, ih (fun u hu => h u (List.mem_cons_of_mem _ hu))]
    congr 1
    unfold textM
    obtain ⟨b, x⟩ := p
    cases b
    · rfl
    · exact h x (List.mem_cons_self ..)
/-- The reference's flatten, against flat. -/
theorem flatten_flat {fl : List UInt8 → Bool × List UInt8} {v : List UInt8} {cs : List PieceM} (hc : callsR v = some cs) (hok : ∀ u ∈ usesOf v, (fl u).1 = false) (look : List UInt8 → List UInt8) (hl : ∀ u ∈ usesOf v, look u = (fl u).2) :
    flatP fl v = if (putIn look cs).length ≤ 2000 then (false, putIn look cs) else (true, []) := by
  obtain ⟨_, hs⟩ := calls_some hc
  have hmem : ∀ u, (true, u) ∈ cs → u ∈ usesOf v := fun u hu => by
    unfold usesOf
    rw [← uses_same hs, mem_uses]
    exact hu
  rw [putIn_text fl look (fun u hu => hl u (hmem u hu)), hs.text fl]
  have h := flatP_says fl v
  have hw : ∀ p, p ∈ (parseM v).1 → wideM fl p = false := fun p hp => by
    obtain ⟨b, x⟩ := p
    cases b
    · rfl
    · exact hok x (by unfold usesOf; rw [mem_uses]; exact hp)
  split at h
  · rw [if_pos (by rename_i hh; exact hh.2)]; exact h
  · rw [if_neg (by rename_i hh; exact fun hc => hh ⟨hw, hc⟩)]; exact h
end Go.Proofs.Ytoandhhkmkgmaaa
/- What names are flat is there, where nothing calls for itself; what MacroFlat's rounds tell. No program in sight. -/
namespace Go.Proofs.Ytoandhhkmkgmaaa

noncomputable section
def valM (l : List MacT) (n : List UInt8) : List UInt8 := ((l.find? fun m => m.1 == n).map (·.2)).getD []
open Classical in
def stepFl (l : List MacT) (n : List UInt8) (ih : ∀ u, CallsM l u n → Bool × List UInt8) : Bool × List UInt8 := flatP (fun u => if h : CallsM l u n then ih u h else (false, [])) (valM l n)
def accFl (l : List MacT) (n : List UInt8) (h : Acc (CallsM l) n) : Bool × List UInt8 := Acc.rec (motive := fun _ _ => Bool × List UInt8) (fun n _ ih => stepFl l n ih) h
end
theorem accFl_eq (l : List MacT) (n : List UInt8) (h : Acc (CallsM l) n) : accFl l n h = stepFl l n (fun u hu => accFl l u (h.inv hu)) := by
  cases h with
  | intro _ h => rfl
theorem valM_of {l : List MacT} (hn : (namesL l).Nodup) {n v : List UInt8} (h : (n, v) ∈ l) : valM l n = v := by
  unfold valM
  cases hf : l.find? (fun m => m.1 == n) with
  | none =>
    rw [List.find?_eq_none] at hf
    exact absurd (hf _ h) (by simp)
  | some m =>
    have h1 := List.find?_some hf
    have h2 := List.mem_of_find?_eq_some hf
    obtain ⟨a, b⟩ := m
    have : a = n := by simpa using h1
    subst this
    exact val_once hn h2 h
open Classical in
theorem fix_ex {l : List MacT} (ht : TidyM l) (hn : (namesL l).Nodup) : FixM l (flM l) := by
  have hf : FixM l (fun n => if h : Acc (CallsM l) n then accFl l n h else (false, [])) := by
    intro n v hv
    have ha := ht n (List.mem_map.2 ⟨(n, v), hv, rfl⟩)
    show (if h : Acc (CallsM l) n then accFl l n h else (false, [])) = _
    rw [dif_pos ha, accFl_eq]
    unfold stepFl
    rw [valM_of hn hv]
    refine flatP_congr (fun u hu => ?_)
    have hc : CallsM l u n := ⟨v, hv, hu⟩
    rw [dif_pos hc, dif_pos (ha.inv hc)]
  exact flM_fix hf
theorem mac_fix {l : List MacT} (h : macE l = 0) : FixM l (flM l) ∧ (namesL l).Nodup ∧ noneL l = false ∧ TidyM l ∧ (∀ x ∈ l, goodName x.1 = true ∧ (parseM x.2).2 = true) := by
  obtain ⟨_, h2, h3, h4⟩ := macE_zero h
  obtain ⟨h5, h6⟩ := faultF_zero h2 List.nodup_nil
  rw [List.nil_append] at h5
  exact ⟨fix_ex h4 h5, h5, h3, h4, h6⟩
/-- In a round: one more is done, or nothing so far could be. -/
def RoundM (l : List MacT) (D0 D : List MacT) (q : Nat) : Prop := D0.length < D.length ∨ (D = D0 ∧ ∀ x ∈ l.take q, x.1 ∈ namesL D0 ∨ readyM D0 x.2 = false)
theorem RoundM.end_ {l : List MacT} {D0 D : List MacT} (h : RoundM l D0 D l.length) (hn : (namesL l).Nodup) (hno : noneL l = false) (ht : TidyM l) (hl : D0.length < l.length) : D0.length < D.length := by
  rcases h with h | ⟨_, h⟩
  · exact h
  · exfalso
    obtain ⟨n, hm, hd⟩ := not_done hn hl
    obtain ⟨m, h1, h2, h3⟩ := ready_some hno (ht n hm) hm hd
    rcases h m (by rw [List.take_length]; exact h1) with h4 | h4
    · exact h2 h4
    · rw [h3] at h4; cases h4
theorem takeS_E {l : List MacT} {k : Nat} {u : MacT} (h : l[k]? = some u) : l.take (k + 1) = l.take k ++ [u] := by
  obtain ⟨hlt, hx⟩ := List.getElem?_eq_some_iff.1 h
  rw [List.take_succ_eq_append_getElem hlt, hx]
theorem RoundM.skip {l : List MacT} {D0 D : List MacT} {q : Nat} {x : MacT} (h : RoundM l D0 D q) (hx : l[q]? = some x) (hs : x.1 ∈ namesL D ∨ readyM D x.2 = false) : RoundM l D0 D (q + 1) := by
  rcases h with h | ⟨rfl, h⟩
  · exact .inl h
  · refine .inr ⟨rfl, fun y hy => ?_⟩
    rw [takeS_E hx] at hy
    rcases List.mem_append.1 hy with hy | hy
    · exact h y hy
    · rw [List.mem_singleton.1 hy]; exact hs
theorem RoundM.more {l : List MacT} {D0 D : List MacT} {q : Nat} (h : RoundM l D0 D q) (x : MacT) : RoundM l D0 (D ++ [x]) (q + 1) := by
  left
  rw [List.length_append]
  rcases h with h | ⟨rfl, _⟩
  · simp; omega
  · simp
/-- What is looked up among those that are done. -/
def lookD (D : List MacT) (n : List UInt8) : List UInt8 := ((D.find? fun m => m.1 == n).map (·.2)).getD []
theorem lookD_of {D : List MacT} (hn : (namesL D).Nodup) {m : MacT} (h : m ∈ D) : lookD D m.1 = m.2 := valM_of (l := D) hn (n := m.1) (v := m.2) h
/-- The text of one that is ready. -/
theorem DoneM.text {l : List MacT} {fl : List UInt8 → Bool × List UInt8} {D : List MacT} (h : DoneM l fl D) (hf : FixM l fl) {n v : List UInt8} (hv : (n, v) ∈ l) {cs : List PieceM} (hc : callsR v = some cs) (hr : readyM D v = true) :
    fl n = if (putIn (lookD D) cs).length ≤ 2000 then (false, putIn (lookD D) cs) else (true, []) := by
  rw [hf n v hv]
  have hin : ∀ u ∈ usesOf v, ∃ m ∈ D, m.1 = u := fun u hu => by
    unfold readyM at hr
    rw [List.all_eq_true] at hr
    have := hr u hu
    unfold inL at this
    have hm : u ∈ namesL D := by simpa using this
    exact List.mem_map.1 hm
  refine flatten_flat hc (fun u hu => ?_) _ (fun u hu => ?_)
  · obtain ⟨m, hm, rfl⟩ := hin u hu
    rw [(h.mem m hm).2]
  · obtain ⟨m, hm, rfl⟩ := hin u hu
    rw [(h.mem m hm).2, lookD_of h.nodup hm]
end Go.Proofs.Ytoandhhkmkgmaaa

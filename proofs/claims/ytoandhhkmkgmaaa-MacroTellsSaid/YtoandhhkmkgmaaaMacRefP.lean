/- Macros, plain: what the reference's calls of a text are, beside the pieces of parse; faults; circles; what names are flat. No program in sight. -/
import Derived.Test.YtoandhhkmkgmaaaMacPlain
import Derived.Test.YtoandhhkmkgmaaaMac1
namespace Go.Proofs.Ytoandhhkmkgmaaa

/-! ### The reference's calls of a text, byte by byte -/
def callsF : Nat → List UInt8 → Option (List PieceM)
  | 0, _ => none
  | _ + 1, [] => some []
  | f + 1, b :: r =>
    if b = 36 then
      if Lib.hasPrefix r [36] = true then (callsF f (Lib.trimPrefix r [36])).map ((false, [36]) :: ·)
      else if Lib.hasPrefix (Lib.cut r [41]).1 [40] = true ∧ (Lib.cut r [41]).2.2 = true ∧ goodName (Lib.trimPrefix (Lib.cut r [41]).1 [40]) = true then (callsF f (Lib.cut r [41]).2.1).map ((true, Lib.trimPrefix (Lib.cut r [41]).1 [40]) :: ·)
      else none
    else (callsF f r).map ((false, [b]) :: ·)
def callsR (s : List UInt8) : Option (List PieceM) := callsF (s.length + 1) s
theorem callsF_more : ∀ (f g : Nat) (s : List UInt8), s.length < f → s.length < g → callsF f s = callsF g s
  | 0, _, _, h, _ => absurd h (Nat.not_lt_zero _)
  | _, 0, _, _, h => absurd h (Nat.not_lt_zero _)
  | f + 1, g + 1, [], _, _ => rfl
  | f + 1, g + 1, b :: r, h1, h2 => by
    rw [List.length_cons] at h1 h2
    have ht := trimP_len r [36]
    have hc := (cut_len r 41).2
    unfold callsF
    rw [callsF_more f g (Lib.trimPrefix r [36]) (by omega) (by omega), callsF_more f g (Lib.cut r [41]).2.1 (by omega) (by omega), callsF_more f g r (by omega) (by omega)]
theorem callsR_nil : callsR [] = some [] := rfl
theorem callsR_cons (b : UInt8) (r : List UInt8) : callsR (b :: r) =
    if b = 36 then
      if Lib.hasPrefix r [36] = true then (callsR (Lib.trimPrefix r [36])).map ((false, [36]) :: ·)
      else if Lib.hasPrefix (Lib.cut r [41]).1 [40] = true ∧ (Lib.cut r [41]).2.2 = true ∧ goodName (Lib.trimPrefix (Lib.cut r [41]).1 [40]) = true then (callsR (Lib.cut r [41]).2.1).map ((true, Lib.trimPrefix (Lib.cut r [41]).1 [40]) :: ·)
      else none
    else (callsR r).map ((false, [b]) :: ·) := by
  have ht := trimP_len r [36]
  have hc := (cut_len r 41).2
  unfold callsR
  conv => lhs; unfold callsF
  rw [List.length_cons, callsF_more (r.length + 1) ((Lib.trimPrefix r [36]).length + 1) (Lib.trimPrefix r [36]) (by omega) (by omega), callsF_more (r.length + 1) ((Lib.cut r [41]).2.1.length + 1) (Lib.cut r [41]).2.1 (by omega) (by omega)]
def singleM (a : List UInt8) : List PieceM := a.map fun b => (false, [b])
theorem calls_front : ∀ (a r : List UInt8), (36 : UInt8) ∉ a → callsR (a ++ r) = (callsR r).map (singleM a ++ ·)
  | [], r, _ => by simp [singleM]
  | b :: a, r, h => by
    have hb : b ≠ 36 := fun e => h (by simp [e])
    rw [List.cons_append, callsR_cons, if_neg hb, calls_front a r (fun hm => h (List.mem_cons_of_mem _ hm))]
    cases callsR r <;> simp [singleM]
/-- The names among pieces. -/
def namesM (ls : List PieceM) : List (List UInt8) := (ls.filter (·.1)).map (·.2)
/-- Two lists of pieces that say the same. -/
structure SameM (a b : List PieceM) : Prop where
  names : namesM a = namesM b
  text : ∀ fl : List UInt8 → Bool × List UInt8, a.flatMap (textM fl) = b.flatMap (textM fl)
theorem SameM.cons {a b : List PieceM} (h : SameM a b) (p : PieceM) : SameM (p :: a) (p :: b) where
  names := by have := h.names; unfold namesM at *; rw [List.filter_cons, List.filter_cons]; split <;> simp [this]
  text := fun fl => by rw [List.flatMap_cons, List.flatMap_cons, h.text]
theorem same_front {a b : List PieceM} (x : List UInt8) (h : SameM a b) : SameM (singleM x ++ a) ((false, x) :: b) where
  names := by
    have := h.names
    unfold namesM at *
    rw [List.filter_append]
    have e : (singleM x).filter (·.1) = [] := by unfold singleM; simp [List.filter_eq_nil_iff]
    rw [e, List.nil_append, this]
    rfl
  text := fun fl => by
    rw [List.flatMap_append, List.flatMap_cons, h.text]
    congr 1
    unfold singleM textM
    induction x with
    | nil => rfl
    | cons b x ih => simpa using ih
/-- What Calls and parse have to do with each other. -/
theorem calls_parse : ∀ (k : Nat) (s : List UInt8), s.length ≤ k → (match callsR s with | none => (parseM s).2 = false | some cs => (parseM s).2 = true ∧ SameM cs (parseM s).1)
  | k, s, hk => by
    rcases cut_ways s 36 with ⟨h, hn⟩ | ⟨i, hi, h, hn, hs⟩
    · have e : callsR s = some (singleM s) := by
        have := calls_front s [] hn
        rw [List.append_nil, callsR_nil] at this
        rw [this]; simp
      rw [e, parseM_eq, h, if_pos rfl]
      refine ⟨rfl, ?_⟩
      have := same_front s (a := []) (b := []) ⟨rfl, fun _ => rfl⟩
      rwa [List.append_nil] at this
    · have hlen : (s.drop (i + 1)).length < s.length := by rw [List.length_drop]; omega
      rw [parseM_eq, h, if_neg (by simp)]
      generalize hr : s.drop (i + 1) = r at *
      generalize ha : s.take i = a at *
      simp only []
      rw [hs, calls_front a _ hn, callsR_cons, if_pos rfl]
      have ht := trimP_len r [36]
      have hc := (cut_len r 41).2
      by_cases h1 : Lib.hasPrefix r [36] = true
      · rw [if_pos h1, if_pos h1]
        obtain ⟨k', rfl⟩ : ∃ k', k = k' + 1 := ⟨k - 1, by omega⟩
        have ih := calls_parse k' (Lib.trimPrefix r [36]) (by omega)
        cases hq : callsR (Lib.trimPrefix r [36]) with
        | none => rw [hq] at ih; exact ih
        | some cs =>
          rw [hq] at ih
          exact ⟨ih.1, same_front a (ih.2.cons _)⟩
      · rw [if_neg h1, if_neg h1]
        by_cases h2 : Lib.hasPrefix (Lib.cut r [41]).1 [40] = true ∧ (Lib.cut r [41]).2.2 = true ∧ goodName (Lib.trimPrefix (Lib.cut r [41]).1 [40]) = true
        · rw [if_pos h2, if_pos h2]
          obtain ⟨k', rfl⟩ : ∃ k', k = k' + 1 := ⟨k - 1, by omega⟩
          have ih := calls_parse k' (Lib.cut r [41]).2.1 (by omega)
          cases hq : callsR (Lib.cut r [41]).2.1 with
          | none => rw [hq] at ih; exact ih
          | some cs =>
            rw [hq] at ih
            exact ⟨ih.1, same_front a (ih.2.cons _)⟩
        · rw [if_neg h2, if_neg h2]
          rfl
theorem calls_none {s : List UInt8} : callsR s = none ↔ (parseM s).2 = false := by
  have h := calls_parse s.length s (Nat.le_refl _)
  cases hq : callsR s with
  | none => rw [hq] at h; simp [h]
  | some cs => rw [hq] at h; simp [h.1]
theorem calls_some {s : List UInt8} {cs : List PieceM} (hq : callsR s = some cs) : (parseM s).2 = true ∧ SameM cs (parseM s).1 := by
  have h := calls_parse s.length s (Nat.le_refl _)
  rw [hq] at h
  exact h
theorem fold_names : ∀ (ls : List PieceM) (us : List (List UInt8)), ls.foldl stepU us = (namesM ls).foldl (fun us n => stepU us (true, n)) us
  | [], _ => rfl
  | p :: l, us => by
    rw [List.foldl_cons, fold_names l]
    obtain ⟨b, x⟩ := p
    cases b
    · show _ = (namesM l).foldl _ us
      unfold stepU
      simp
    · rfl
theorem uses_same {a b : List PieceM} (h : SameM a b) : usesP a = usesP b := by unfold usesP; rw [fold_names, fold_names, h.names]
theorem mem_usesF : ∀ (ls : List (List UInt8)) (us : List (List UInt8)) (n : List UInt8), n ∈ ls.foldl (fun us n => stepU us (true, n)) us ↔ n ∈ us ∨ n ∈ ls
  | [], us, n => by simp
  | x :: l, us, n => by
    rw [List.foldl_cons, mem_usesF l]
    unfold stepU
    by_cases h : inL us x = false
    · rw [if_pos ⟨rfl, h⟩]; simp [or_assoc]
    · rw [if_neg (fun hc => h hc.2)]
      have : x ∈ us := by unfold inL at h; simpa using h
      constructor
      · rintro (h | h)
        · exact .inl h
        · exact .inr (List.mem_cons_of_mem _ h)
      · rintro (h | h)
        · exact .inl h
        · rcases List.mem_cons.1 h with rfl | h
          · exact .inl this
          · exact .inr h
theorem mem_uses {ls : List PieceM} {n : List UInt8} : n ∈ usesP ls ↔ (true, n) ∈ ls := by
  unfold usesP
  rw [fold_names, mem_usesF]
  unfold namesM
  simp

/-! ### Macros -/
abbrev MacT := List UInt8 × List UInt8
def namesL (l : List MacT) : List (List UInt8) := l.map (·.1)
def usesOf (v : List UInt8) : List (List UInt8) := usesP (parseM v).1
def faultM (done : List (List UInt8)) (m : MacT) : Nat := if goodName m.1 = false ∨ (parseM m.2).2 = false then 3 else if inL done m.1 = true then 6 else 0
def faultF : List (List UInt8) → List MacT → Nat
  | _, [] => 0
  | done, m :: l => if faultM done m ≠ 0 then faultM done m else faultF (done ++ [m.1]) l
theorem faultF_at : ∀ {l : List MacT} {done : List (List UInt8)} {i : Nat} {m : MacT}, l[i]? = some m → faultF done (l.take i) = 0 → faultM (done ++ namesL (l.take i)) m ≠ 0 → faultF done l = faultM (done ++ namesL (l.take i)) m
  | [], _, i, _, h, _, _ => by simp at h
  | x :: l, done, 0, m, h, _, hf => by
    simp only [List.getElem?_cons_zero, Option.some.injEq] at h
    subst h
    simp only [List.take_zero, namesL, List.map_nil, List.append_nil] at hf ⊢
    unfold faultF
    rw [if_pos hf]
  | x :: l, done, i + 1, m, h, h0, hf => by
    rw [List.take_succ_cons] at h0 hf ⊢
    unfold faultF at h0 ⊢
    by_cases hx : faultM done x ≠ 0
    · rw [if_pos hx] at h0; exact absurd h0 hx
    · rw [if_neg hx] at h0 ⊢
      have e : done ++ namesL (x :: l.take i) = done ++ [x.1] ++ namesL (l.take i) := by simp [namesL]
      rw [e] at hf ⊢
      exact faultF_at (by simpa using h) h0 hf
theorem faultF_take : ∀ {l : List MacT} {done : List (List UInt8)} {i : Nat} {m : MacT}, l[i]? = some m → faultF done (l.take i) = 0 → faultM (done ++ namesL (l.take i)) m = 0 → faultF done (l.take (i + 1)) = 0
  | [], _, i, _, h, _, _ => by simp at h
  | x :: l, done, 0, m, h, _, hf => by
    simp only [List.getElem?_cons_zero, Option.some.injEq] at h
    subst h
    simp only [List.take_zero, namesL, List.map_nil, List.append_nil] at hf
    rw [List.take_succ_cons, List.take_zero]
    unfold faultF
    rw [if_neg (by simp [hf])]
    rfl
  | x :: l, done, i + 1, m, h, h0, hf => by
    rw [List.take_succ_cons] at h0 hf ⊢
    unfold faultF at h0 ⊢
    by_cases hx : faultM done x ≠ 0
    · rw [if_pos hx] at h0; exact absurd h0 hx
    · rw [if_neg hx] at h0 ⊢
      have e : done ++ namesL (x :: l.take i) = done ++ [x.1] ++ namesL (l.take i) := by simp [namesL]
      rw [e] at hf
      exact faultF_take (by simpa using h) h0 hf
theorem faultM_zero {done : List (List UInt8)} {m : MacT} : faultM done m = 0 ↔ goodName m.1 = true ∧ (parseM m.2).2 = true ∧ m.1 ∉ done := by
  unfold faultM inL
  by_cases h : goodName m.1 = false ∨ (parseM m.2).2 = false
  · rw [if_pos h]
    constructor
    · intro e; cases e
    · rintro ⟨h1, h2, _⟩; rcases h with h | h
      · rw [h1] at h; cases h
      · rw [h2] at h; cases h
  · rw [if_neg h]
    have h1 : goodName m.1 = true := by cases hg : goodName m.1 <;> simp_all
    have h2 : (parseM m.2).2 = true := by cases hg : (parseM m.2).2 <;> simp_all
    by_cases h3 : m.1 ∈ done <;> simp [h1, h2, h3]
theorem faultF_zero : ∀ {l : List MacT} {done : List (List UInt8)}, faultF done l = 0 → done.Nodup → (done ++ namesL l).Nodup ∧ ∀ m ∈ l, goodName m.1 = true ∧ (parseM m.2).2 = true
  | [], done, _, hd => ⟨by simpa [namesL] using hd, by simp⟩
  | x :: l, done, h, hd => by
    unfold faultF at h
    by_cases hx : faultM done x ≠ 0
    · rw [if_pos hx] at h; exact absurd h hx
    · rw [if_neg hx] at h
      obtain ⟨g1, g2, g3⟩ := faultM_zero.1 (Decidable.not_not.1 hx)
      have hd2 : (done ++ [x.1]).Nodup := by
        rw [List.nodup_append]
        exact ⟨hd, by simp, fun a ha b hb e => by rw [List.mem_singleton] at hb; subst hb; subst e; exact g3 ha⟩
      obtain ⟨h1, h2⟩ := faultF_zero h hd2
      refine ⟨by simpa [namesL] using h1, fun m hm => ?_⟩
      rcases List.mem_cons.1 hm with rfl | hm
      · exact ⟨g1, g2⟩
      · exact h2 m hm
def noneL (l : List MacT) : Bool := l.any fun m => (usesOf m.2).any fun u => !inL (namesL l) u
/-- 'a calls for b'. -/
def CallsM (l : List MacT) (b a : List UInt8) : Prop := ∃ v, (a, v) ∈ l ∧ b ∈ usesOf v
def TidyM (l : List MacT) : Prop := ∀ n ∈ namesL l, Acc (CallsM l) n
open Classical in
noncomputable def macE (l : List MacT) : Nat := if 40 < l.length then 2 else if faultF [] l ≠ 0 then faultF [] l else if noneL l = true then 5 else if TidyM l then 0 else 8
theorem macE_big {l : List MacT} (h : 40 < l.length) : macE l = 2 := by unfold macE; rw [if_pos h]
theorem macE_bad {l : List MacT} (h : ¬ 40 < l.length) (h2 : faultF [] l ≠ 0) : macE l = faultF [] l := by unfold macE; rw [if_neg h, if_pos h2]
theorem macE_none {l : List MacT} (h : ¬ 40 < l.length) (h2 : faultF [] l = 0) (h3 : noneL l = true) : macE l = 5 := by unfold macE; rw [if_neg h, if_neg (fun e => e h2), if_pos h3]
theorem macE_cyc {l : List MacT} (h : ¬ 40 < l.length) (h2 : faultF [] l = 0) (h3 : noneL l = false) (h4 : ¬ TidyM l) : macE l = 8 := by unfold macE; rw [if_neg h, if_neg (fun e => e h2), if_neg (by rw [h3]; decide), if_neg h4]
theorem macE_ok {l : List MacT} (h : ¬ 40 < l.length) (h2 : faultF [] l = 0) (h3 : noneL l = false) (h4 : TidyM l) : macE l = 0 := by unfold macE; rw [if_neg h, if_neg (fun e => e h2), if_neg (by rw [h3]; decide), if_pos h4]
theorem faultF_le : ∀ (l : List MacT) (done : List (List UInt8)), faultF done l ≤ 6
  | [], _ => by simp [faultF]
  | m :: l, done => by
    unfold faultF
    split
    · unfold faultM; split
      · omega
      · split <;> omega
    · exact faultF_le l _
theorem macE_zero {l : List MacT} (h : macE l = 0) : ¬ 40 < l.length ∧ faultF [] l = 0 ∧ noneL l = false ∧ TidyM l := by
  unfold macE at h
  split at h
  · cases h
  · split at h
    · contradiction
    · split at h
      · cases h
      · split at h
        · exact ⟨by assumption, by simp_all, by simp_all, by assumption⟩
        · cases h
theorem noneL_false {l : List MacT} (h : noneL l = false) {n v u : List UInt8} (hm : (n, v) ∈ l) (hu : u ∈ usesOf v) : u ∈ namesL l := by
  unfold noneL at h
  rw [List.any_eq_false] at h
  have := h (n, v) hm
  simp only [Bool.not_eq_true, List.any_eq_false, Bool.not_eq_true'] at this
  have h2 := this u hu
  unfold inL at h2
  simpa using h2
theorem noneL_true {l : List MacT} {n v u : List UInt8} (hm : (n, v) ∈ l) (hu : u ∈ usesOf v) (h : u ∉ namesL l) : noneL l = true := by
  unfold noneL
  rw [List.any_eq_true]
  refine ⟨(n, v), hm, ?_⟩
  rw [List.any_eq_true]
  exact ⟨u, hu, by unfold inL; simpa using h⟩
theorem noneL_no {l : List MacT} (h : ∀ m ∈ l, ∀ u ∈ usesOf m.2, u ∈ namesL l) : noneL l = false := by
  unfold noneL
  rw [List.any_eq_false]
  intro m hm
  simp only [Bool.not_eq_true, List.any_eq_false, Bool.not_eq_true']
  intro u hu
  unfold inL
  simpa using h m hm u hu

/-! ### Flat -/
/-- What flat makes of a text. -/
def flatP (fl : List UInt8 → Bool × List UInt8) (v : List UInt8) : Bool × List UInt8 :=
  if ((parseM v).1.foldl (pieceM fl) (false, [])).1 = true then (true, []) else (false, ((parseM v).1.foldl (pieceM fl) (false, [])).2)
def FixM (l : List MacT) (fl : List UInt8 → Bool × List UInt8) : Prop := ∀ n v, (n, v) ∈ l → fl n = flatP fl v
theorem flatP_says (fl : List UInt8 → Bool × List UInt8) (v : List UInt8) :
    (if (∀ p, p ∈ (parseM v).1 → wideM fl p = false) ∧ ((parseM v).1.flatMap (textM fl)).length ≤ 2000 then flatP fl v = (false, (parseM v).1.flatMap (textM fl)) else flatP fl v = (true, [])) := by
  have h := flat_says fl (parseM v).1 [] (by simp)
  rw [List.nil_append] at h
  unfold flatP
  split at h
  · rw [if_pos (by assumption), h]; rfl
  · rw [if_neg (by assumption), if_pos h]
theorem flatP_congr {f g : List UInt8 → Bool × List UInt8} {v : List UInt8} (h : ∀ u ∈ usesOf v, f u = g u) : flatP f v = flatP g v := by
  have key : ∀ (ls : List PieceM) (st : Bool × List UInt8), (∀ p ∈ ls, p.1 = true → f p.2 = g p.2) → ls.foldl (pieceM f) st = ls.foldl (pieceM g) st := by
    intro ls
    induction ls with
    | nil => intro st _; rfl
    | cons p l ih =>
      intro st hp
      rw [List.foldl_cons, List.foldl_cons]
      have e : pieceM f st p = pieceM g st p := by
        unfold pieceM
        by_cases hb : p.1 = true
        · rw [if_pos hb, if_pos hb, hp p (List.mem_cons_self ..) hb]
        · rw [if_neg hb, if_neg hb]
      rw [e]
      exact ih _ (fun q hq => hp q (List.mem_cons_of_mem _ hq))
  unfold flatP
  rw [key _ _ (fun p hp hb => h p.2 (by unfold usesOf; rw [mem_uses]; obtain ⟨b, x⟩ := p; simp only at hb; subst hb; exact hp))]
/-- What names are flat is told by the equation, where nothing calls for itself. -/
theorem fix_unique {l : List MacT} {f g : List UInt8 → Bool × List UInt8} (hf : FixM l f) (hg : FixM l g) (hn : noneL l = false) : ∀ n, Acc (CallsM l) n → n ∈ namesL l → f n = g n := by
  intro n ha
  induction ha with
  | intro n _ ih =>
    intro hm
    obtain ⟨⟨a, v⟩, hv, rfl⟩ := List.mem_map.1 hm
    rw [hf _ _ hv, hg _ _ hv]
    exact flatP_congr (fun u hu => ih u ⟨v, hv, hu⟩ (noneL_false hn hv hu))
open Classical in
/-- What each name is flat. -/
noncomputable def flM (l : List MacT) : List UInt8 → Bool × List UInt8 := if h : ∃ fl, FixM l fl then h.choose else fun _ => (false, [])
theorem flM_fix {l : List MacT} {f : List UInt8 → Bool × List UInt8} (hf : FixM l f) : FixM l (flM l) := by
  unfold flM
  rw [dif_pos ⟨f, hf⟩]
  exact Exists.choose_spec _
theorem flM_eq {l : List MacT} {f : List UInt8 → Bool × List UInt8} (hf : FixM l f) (hz : macE l = 0) {n : List UInt8} (hn : n ∈ namesL l) : f n = flM l n := by
  obtain ⟨_, _, h3, h4⟩ := macE_zero hz
  exact fix_unique hf (flM_fix hf) h3 n (h4 n hn) hn
end Go.Proofs.Ytoandhhkmkgmaaa

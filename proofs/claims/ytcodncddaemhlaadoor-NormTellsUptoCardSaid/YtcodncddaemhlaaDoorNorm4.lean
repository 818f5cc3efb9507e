/- Contracts: ask.Text, norm.text, norm.size, norm.Size; the reference's alike. Asks that are right, of at most 60 parts. -/
import Derived.Test.YtcodncddaemhlaaDoorNorm1
import Derived.Test.YtcodncddaemhlaaDoorNorm3
namespace Go.Proofs.YtcodncddaemhlaaDoor
open Go.RowKit

inductive NameLe : AskT → Prop
  | mk {k : Int} {s : List UInt8} {n : Int} {X : List AskT} (hs : s.length ≤ 60) (h : ∀ y, y ∈ X → NameLe y) : NameLe (.mk k s n X)
theorem okA_ok : ∀ x : AskT, okA x → AskOk x := by
  refine askT_ind fun k s n X ih hx => ?_
  exact .mk (by have := name_len hx; omega) (fun y hy => ih y hy (ok_kids hx y hy))
theorem okA_askE {x : AskT} (h : okA x) (hs : sizeA x ≤ 60) : askE x = 0 := by
  unfold askE
  rw [if_neg (by omega)]
  exact h
def TextPost (T : List UInt8) (w : World) (e : Ending) (w' : World) : Prop := e = .returned (.tuple #[.string ⟨T.toArray⟩, .int .i64 0]) ∧ Below w.heap.size w w'
set_option maxRecDepth 100000 in
set_option maxHeartbeats 1000000 in
theorem aTextT_any (x : AskT) (A : Option Addr) (c : Nat) (w : World) (hA : AskAt w x A c) (hok : okA x) (hs : sizeA x ≤ 60) (hT : NTab w) : Calls Tryd.prog 52 #[askV x A c] w (TextPost (textA x) w) := by
  obtain ⟨y, hy⟩ := boxA_new w (.int .i64 x.kind) (.string ⟨x.name.toArray⟩) (.int .i64 x.n) (.slice A x.X.length c) 24
  have Y := Lib.hid y
  have HY := Lib.hid hy
  have CK := Lib.hid (aCheck_any x A c _ (AskAt.keep hy _ _ _ hA) (okA_ok x hok) (by omega) (hT.below hy).f)
  rw [okA_askE hok hs] at CK
  have CT := Lib.hid (fun W (hb : Below w.heap.size w W) => aText_any x A c W (AskAt.keep hb _ _ _ hA) hok hs (hT.below hb))
  clear hA hok hs hT y hy
  unfold askV at *
  unfold CntPost at CK
  unfold StrPost at CT
  generalize hbs : (⟨x.name.toArray⟩ : ByteArray) = bs at *
  clear hbs
  generalize textA x = T at *
  generalize x.kind = xk at *
  generalize x.n = xn at *
  generalize x.X.length = xm at *
  go_enter Tryd.func52, Tryd.ntmps52
  go_upto_region 1 with fail
  generalize w.alloc (.cells #[.int .i64 xk, .string bs, .int .i64 xn, .slice A xm c] 24) = w1 at *
  obtain ⟨y1, y2, y3, y4⟩ := Y.out
  go_wp2_with fail
  refine CK.out.mono ?_
  rintro e w2 ⟨rfl, hb2⟩
  have HB2 := Lib.hid (below_then HY.out hb2)
  have Y2 := Lib.hid (Y.out.below hb2)
  clear hb2 y1 y2 y3 y4
  obtain ⟨y1, y2, y3, y4⟩ := Y2.out
  have CT2 := Lib.hid (CT.out w2 HB2.out)
  go_wp2_with fail
  refine CT2.out.mono ?_
  rintro e w3 ⟨rfl, hb3⟩
  have HB3 := Lib.hid (below_then HB2.out hb3)
  clear hb3 y1 y2 y3 y4
  go_wp2_with fail
  go_ret2
  exact ⟨rfl, HB3.out⟩
set_option maxRecDepth 100000 in
set_option maxHeartbeats 1000000 in
theorem nText_any (x : AskT) (A : Option Addr) (c : Nat) (w : World) (hA : AskAt w x A c) (hok : okA x) (hs : sizeA x ≤ 60) (hT : NTab w) : Calls Tryd.prog 40 #[askV x A c] w (StrPost (textA x) w) := by
  obtain ⟨y, hy⟩ := boxA_new w (.int .i64 x.kind) (.string ⟨x.name.toArray⟩) (.int .i64 x.n) (.slice A x.X.length c) 24
  have Y := Lib.hid y
  have HY := Lib.hid hy
  have CT := Lib.hid (aTextT_any x A c _ (AskAt.keep hy _ _ _ hA) hok hs (hT.below hy))
  clear hA hok hs hT y hy
  unfold askV at *
  unfold TextPost at CT
  generalize hbs : (⟨x.name.toArray⟩ : ByteArray) = bs at *
  clear hbs
  generalize textA x = T at *
  generalize x.kind = xk at *
  generalize x.n = xn at *
  generalize x.X.length = xm at *
  go_enter Tryd.func40, Tryd.ntmps40
  go_upto_region 1 with fail
  generalize w.alloc (.cells #[.int .i64 xk, .string bs, .int .i64 xn, .slice A xm c] 24) = w1 at *
  obtain ⟨y1, y2, y3, y4⟩ := Y.out
  go_wp2_with fail
  refine CT.out.mono ?_
  rintro e w2 ⟨rfl, hb2⟩
  have HB2 := Lib.hid (below_then HY.out hb2)
  clear hb2 y1 y2 y3 y4
  go_wp2_with fail
  go_ret
  exact ⟨rfl, HB2.out⟩
set_option maxRecDepth 100000 in
set_option maxHeartbeats 2000000 in
theorem nSize_any : ∀ (x : AskT) (A : Option Addr) (c : Nat) (w : World), AskAt w x A c → x.X.length ≤ 9223372036854775807 → sizeA x ≤ 1152921504606846976 → Calls Tryd.prog 16 #[askV x A c] w (CntPost (sizeA x) w) := by
  refine askT_ind fun k s n X ih A c w hA hm hs => ?_
  have HIH := Lib.hid ih
  have HA := Lib.hid hA
  have HSZ := Lib.hid (sizeA_mk k s n X)
  rw [HSZ.out] at hs ⊢
  have HS := Lib.hid hs
  obtain ⟨y, hy⟩ := boxA_new w (.int .i64 k) (.string ⟨s.toArray⟩) (.int .i64 n) (.slice A X.length c) 24
  have Y := Lib.hid y
  have HY := Lib.hid hy
  have hm' : X.length ≤ 9223372036854775807 := hm
  clear ih hA hs hm y hy
  unfold askV
  simp only [AskT.kind, AskT.name, AskT.n, AskT.X]
  generalize hbs : (⟨s.toArray⟩ : ByteArray) = bs at *
  clear hbs
  go_enter Tryd.func16, Tryd.ntmps16
  go_upto_region 1 with fail
  generalize w.alloc (.cells #[.int .i64 k, .string bs, .int .i64 n, .slice A X.length c] 24) = w0 at *
  obtain ⟨y1, y2, y3, y4⟩ := Y.out
  go_wp2_with fail
  go_loopw [3, 5, 9] (fun v _ i wr => ∃ (j t : Nat), i = .int .i64 (j : Int) ∧ j ≤ X.length ∧ v = .int .i64 (t : Int) ∧ Hid (t = 1 + ((X.map sizeA).take j).sum) ∧ Hid (Below w.heap.size w wr)) (fun _ _ i _ => X.length - (intOf i).toNat)
  case atStart => exact ⟨0, 1, rfl, by omega, rfl, Lib.hid (by simp), HY⟩
  case round =>
    obtain ⟨j, t, rfl, hj, rfl, HT, HB⟩ := hrel
    by_cases hlt : j < X.length
    · obtain ⟨x, hx⟩ : ∃ x, X[j]? = some x := ⟨_, List.getElem?_eq_getElem hlt⟩
      obtain ⟨b, off, A', c', rfl, e1, e2, e3, e4, hch⟩ := AskAt.child (AskAt.keep HB.out _ _ _ HA.out) hx
      have hms : (X.map sizeA)[j]? = some (sizeA x) := by rw [List.getElem?_map, hx]; rfl
      have h1 := sum_take_succ hms
      have h2 := sum_take_le (X.map sizeA) (j + 1)
      have h3 := HS.out
      have HT2 : Hid (t + sizeA x = 1 + ((X.map sizeA).take (j + 1)).sum) := Lib.hid (by rw [h1, HT.out]; omega)
      have HM : Hid (t + sizeA x ≤ 1152921504606846976) := Lib.hid (by rw [HT2.out]; omega)
      have HXX : Hid (x.X.length ≤ 9223372036854775807) := Lib.hid (by have h4 := HM.out; have := kids_size x; omega)
      obtain ⟨z, hz⟩ := boxA_new wr (.int .i64 x.kind) (.string ⟨x.name.toArray⟩) (.int .i64 x.n) (.slice A' x.X.length c') 24
      have Z := Lib.hid z
      have HZ := Lib.hid (below_newA HB.out hz)
      have HC := Lib.hid (HIH.out x (List.mem_of_getElem? hx) A' c' _ (AskAt.keep hz _ _ _ hch) HXX.out (by have := HM.out; omega))
      unfold askV CntPost at HC
      have hj1 : (j : Int) < (X.length : Int) := by omega
      clear hx hch hms h1 h2 h3 z hz
      generalize hbx : (⟨x.name.toArray⟩ : ByteArray) = bx at *
      clear hbx
      generalize x.kind = xk at *
      generalize x.n = xn at *
      generalize x.X.length = xm at *
      generalize sizeA x = xs at *
      go_upto_region 5 with fail
      generalize wr.alloc (.cells #[.int .i64 xk, .string bx, .int .i64 xn, .slice A' xm c'] 24) = w1 at *
      obtain ⟨z1, z2, z3, z4⟩ := Z.out
      have hm1 := HM.out
      go_wp2_with fail
      refine HC.out.mono ?_
      rintro e w2 ⟨rfl, hb2⟩
      have HB2 := Lib.hid (below_newA HZ.out hb2)
      clear hb2 z1 z2 z3 z4
      go_wp2_with fail
      exact ⟨⟨j + 1, t + xs, rfl, by omega, rfl, HT2, HB2⟩, measA hlt⟩
    · obtain rfl : j = X.length := by omega
      have HE : Hid ((t : Int) = ((1 + (X.map sizeA).sum : Nat) : Int)) := Lib.hid (by rw [HT.out, List.take_of_length_le (by simp)])
      go_wp2_with fail
      go_ret
      exact ⟨ret_int HE.out, HB.out⟩
def SizePost (x : AskT) (w : World) (e : Ending) (w' : World) : Prop := e = .returned (.tuple #[.int .i64 ((if askE x = 0 then sizeA x else 0 : Nat) : Int), .int .i64 ((askE x : Nat) : Int)]) ∧ Below w.heap.size w w'
set_option maxRecDepth 100000 in
set_option maxHeartbeats 1000000 in
theorem nSizeT_any (x : AskT) (A : Option Addr) (c : Nat) (w : World) (hA : AskAt w x A c) (hok : AskOk x) (hs : sizeA x ≤ 1152921504606846976) (hF : FTab w) : Calls Tryd.prog 6 #[askV x A c] w (SizePost x w) := by
  have hm' : x.X.length ≤ 9223372036854775807 := by have := kids_size x; omega
  obtain ⟨y, hy⟩ := boxA_new w (.int .i64 x.kind) (.string ⟨x.name.toArray⟩) (.int .i64 x.n) (.slice A x.X.length c) 24
  have Y := Lib.hid y
  have HY := Lib.hid hy
  have CK := Lib.hid (aCheck_any x A c _ (AskAt.keep hy _ _ _ hA) hok hs (hF.below hy))
  have CT := Lib.hid (fun W (hb : Below w.heap.size w W) => nSize_any x A c W (AskAt.keep hb _ _ _ hA) hm' hs)
  have HR1 : Hid (askE x = 0 → (if askE x = 0 then sizeA x else 0) = sizeA x) := Lib.hid (fun h => if_pos h)
  have HR0 : Hid (askE x ≠ 0 → (if askE x = 0 then sizeA x else 0) = 0) := Lib.hid (fun h => if_neg h)
  clear hA hok hs hF hm' y hy
  unfold SizePost
  generalize (if askE x = 0 then sizeA x else 0) = R at *
  unfold askV at *
  unfold CntPost at *
  generalize hbs : (⟨x.name.toArray⟩ : ByteArray) = bs at *
  clear hbs
  generalize askE x = E at *
  generalize sizeA x = sz at *
  generalize x.kind = xk at *
  generalize x.n = xn at *
  generalize x.X.length = xm at *
  go_enter Tryd.func6, Tryd.ntmps6
  go_upto_region 1 with fail
  generalize w.alloc (.cells #[.int .i64 xk, .string bs, .int .i64 xn, .slice A xm c] 24) = w1 at *
  obtain ⟨y1, y2, y3, y4⟩ := Y.out
  go_wp2_with fail
  refine CK.out.mono ?_
  rintro e w2 ⟨rfl, hb2⟩
  have HB2 := Lib.hid (below_then HY.out hb2)
  have Y2 := Lib.hid (Y.out.below hb2)
  clear hb2 y1 y2 y3 y4
  by_cases h0 : E = 0
  · obtain rfl := (HR1.out h0)
    subst h0
    obtain ⟨y1, y2, y3, y4⟩ := Y2.out
    have CT2 := Lib.hid (CT.out w2 HB2.out)
    go_wp2_with fail
    refine CT2.out.mono ?_
    rintro e w3 ⟨rfl, hb3⟩
    have HB3 := Lib.hid (below_then HB2.out hb3)
    clear hb3 y1 y2 y3 y4
    go_wp2_with fail
    go_ret2
    exact ⟨rfl, HB3.out⟩
  · have hne : (((E : Nat) : Int) != 0) = true := by simp; omega
    obtain rfl := (HR0.out h0)
    clear h0
    go_wp2_with fail
    go_ret2
    exact ⟨rfl, HB2.out⟩
end Go.Proofs.YtcodncddaemhlaaDoor
/- Asks as they lie, and in which blocks. No condition. -/
namespace Go.Proofs.YtcodncddaemhlaaDoor
open Go.RowKit

/-- An ask as it lies, all of it in blocks that are ok. -/
inductive AskP (ok : Nat → Prop) (w : World) : AskT → Option Addr → Nat → Prop
  | mk {k : Int} {s : List UInt8} {n : Int} {X : List AskT} {A : Option Addr} {c : Nat} (ac : List (Option Addr × Nat)) (hl : ac.length = X.length) (hc : X.length ≤ c) (hb : ∀ b off, A = some ⟨b, off, none⟩ → 0 < X.length → ok b) (hr : Rd w A (cellsA X ac))
      (hX : ∀ (i : Nat) (x : AskT) (a : Option Addr × Nat), X[i]? = some x → ac[i]? = some a → AskP ok w x a.1 a.2) : AskP ok w (.mk k s n X) A c
section
variable {ok ok' : Nat → Prop} {w w' : World}
theorem AskP.at_ : ∀ (x : AskT) (A : Option Addr) (c : Nat), AskP ok w x A c → AskAt w x A c := by
  refine askT_ind fun k s n X ih A c h => ?_
  cases h with
  | mk ac hl hc hb hr hX => exact .mk ac hl hc hr fun i x a hx ha => ih x (List.mem_of_getElem? hx) _ _ (hX i x a hx ha)
theorem AskP.of : ∀ (x : AskT) (A : Option Addr) (c : Nat), AskAt w x A c → AskP (fun k => k < w.heap.size) w x A c := by
  refine askT_ind fun k s n X ih A c h => ?_
  cases h with
  | mk ac hl hc hr hX =>
    refine .mk ac hl hc (fun b off hA hx => ?_) hr fun i x a hx ha => ih x (List.mem_of_getElem? hx) _ _ (hX i x a hx ha)
    obtain ⟨b', off', hA', hlt, _⟩ := hr (by rw [cellsA_len X ac hl]; omega)
    rw [hA] at hA'
    injection hA' with hA'
    injection hA' with h1 _ _
    omega
theorem AskP.keep (h : ∀ k, ok k → k < w.heap.size → w'.heap[k]? = w.heap[k]?) (hs : w.heap.size ≤ w'.heap.size) : ∀ (x : AskT) (A : Option Addr) (c : Nat), AskP ok w x A c → AskP ok w' x A c := by
  refine askT_ind fun k s n X ih A c hA => ?_
  cases hA with
  | mk ac hl hc hb hr hX =>
    refine .mk ac hl hc hb (fun hpos => ?_) fun i x a hx ha => ih x (List.mem_of_getElem? hx) _ _ (hX i x a hx ha)
    obtain ⟨b, off, hAe, hlt, hcell⟩ := hr hpos
    have hok : ok b := hb b off hAe (by rw [cellsA_len X ac hl] at hpos; omega)
    refine ⟨b, off, hAe, Nat.lt_of_lt_of_le hlt hs, fun j u hu => ?_⟩
    rw [World.cell?_of_block (w := w) (h b hok hlt)]
    exact hcell j u hu
theorem AskP.mono (h : ∀ k, ok k → k < w.heap.size → ok' k) : ∀ (x : AskT) (A : Option Addr) (c : Nat), AskP ok w x A c → AskP ok' w x A c := by
  refine askT_ind fun k s n X ih A c hA => ?_
  cases hA with
  | mk ac hl hc hb hr hX =>
    refine .mk ac hl hc (fun b off hAe hx => ?_) hr fun i x a hx ha => ih x (List.mem_of_getElem? hx) _ _ (hX i x a hx ha)
    obtain ⟨b', off', hA', hlt, _⟩ := hr (by rw [cellsA_len X ac hl]; omega)
    have e := hAe
    rw [hA'] at e
    injection e with e
    injection e with h1 _ _
    exact h b (hb b off hAe hx) (by omega)
theorem AskP.child {k : Int} {s : List UInt8} {n : Int} {X : List AskT} {A : Option Addr} {c : Nat} (h : AskP ok w (.mk k s n X) A c) {i : Nat} {x : AskT} (hx : X[i]? = some x) :
    ∃ (b off : Nat) (A' : Option Addr) (c' : Nat), A = some ⟨b, off, none⟩ ∧ w.cell? ⟨b, off + i * 4, none⟩ = some (.int .i64 x.kind) ∧ w.cell? ⟨b, off + i * 4 + 1, none⟩ = some (.string ⟨x.name.toArray⟩) ∧ w.cell? ⟨b, off + i * 4 + 2, none⟩ = some (.int .i64 x.n) ∧ w.cell? ⟨b, off + i * 4 + 3, none⟩ = some (.slice A' x.X.length c') ∧ AskP ok w x A' c' := by
  cases h with
  | mk ac hl hc hb hr hX =>
    have hi := (List.getElem?_eq_some_iff.1 hx).1
    obtain ⟨a, ha⟩ : ∃ a, ac[i]? = some a := ⟨_, List.getElem?_eq_getElem (by omega)⟩
    obtain ⟨b, off, hA, _, hcell⟩ := hr (by rw [cellsA_len X ac hl]; omega)
    obtain ⟨h0, h1, h2, h3⟩ := cellsA_at X ac i x a hx ha
    refine ⟨b, off, a.1, a.2, hA, ?_, ?_, ?_, ?_, hX i x a hx ha⟩
    · have := hcell _ _ h0; rwa [show 4 * i = i * 4 by omega] at this
    · have := hcell _ _ h1; rwa [show off + (4 * i + 1) = off + i * 4 + 1 by omega] at this
    · have := hcell _ _ h2; rwa [show off + (4 * i + 2) = off + i * 4 + 2 by omega] at this
    · have := hcell _ _ h3; rwa [show off + (4 * i + 3) = off + i * 4 + 3 by omega] at this
theorem askP_X {a : AskT} {A : Option Addr} {c : Nat} (k : Int) (s : List UInt8) (n : Int) (h : AskP ok w a A c) : AskP ok w (.mk k s n a.X) A c := by
  cases h with
  | mk ac hl hc hb hr hX => exact .mk ac hl hc hb hr hX
theorem askP_nil (k : Int) (s : List UInt8) (n : Int) : AskP ok w (.mk k s n []) none 0 := .mk [] rfl (by simp) (fun b off h _ => by cases h) (Rd.nil_ _ _) (fun i x a hx _ => by simp at hx)
/-- Two asks laid in a block. -/
theorem askP_two {G : Nat} {a b : AskT} {Aa Ab : Option Addr} {ca cb : Nat} (k : Int) (s : List UInt8) (n : Int) (hG : ok G)
    (hc : ∀ j u, ([.int .i64 a.kind, .string ⟨a.name.toArray⟩, .int .i64 a.n, .slice Aa a.X.length ca, .int .i64 b.kind, .string ⟨b.name.toArray⟩, .int .i64 b.n, .slice Ab b.X.length cb] : List Value)[j]? = some u → w.cell? ⟨G, j, none⟩ = some u)
    (ha : AskP ok w a Aa ca) (hb : AskP ok w b Ab cb) : AskP ok w (.mk k s n [a, b]) (some ⟨G, 0, none⟩) 2 := by
  refine .mk [(Aa, ca), (Ab, cb)] rfl (by simp) (fun b off h _ => by injection h with h; injection h with h1 _ _; rw [← h1]; exact hG) (fun _ => ⟨G, 0, rfl, lt_of_cell' (hc 0 _ rfl), fun j u hu => by rw [Nat.zero_add]; exact hc j u hu⟩) (fun i x ac hx hac => ?_)
  match i, hx, hac with
  | 0, hx, hac => injection hx with hx; injection hac with hac; subst hx hac; exact ha
  | 1, hx, hac => injection hx with hx; injection hac with hac; subst hx hac; exact hb
  | i + 2, hx, _ => simp at hx
/-- What was there lies still in a world that has only grown. -/
theorem rule_keep {x : AskT} {A : Option Addr} {c : Nat} (h : AskP ok w x A c) (hB : Below w.heap.size w w') : AskP (fun k => ok k ∨ w.heap.size ≤ k) w' x A c :=
  AskP.mono (fun _ h _ => .inl h) _ _ _ (AskP.keep (fun k _ hk => hB.block k hk) hB.size _ _ _ h)
theorem askP_below {x : AskT} {A : Option Addr} {c : Nat} (h : AskP ok w x A c) (hB : Below w.heap.size w w') : AskP ok w' x A c := AskP.keep (fun k _ hk => hB.block k hk) hB.size _ _ _ h
/-- Four cells of another block written. -/
theorem AskP.put4 {x : AskT} {A : Option Addr} {c : Nat} (h : AskP ok w x A c) {b : Nat} (hb : ¬ ok b) (v1 v2 v3 v4 : Value) : AskP ok ((((w.setCell ⟨b, 0, none⟩ v1).setCell ⟨b, 1, none⟩ v2).setCell ⟨b, 2, none⟩ v3).setCell ⟨b, 3, none⟩ v4) x A c := by
  refine AskP.keep (fun k hk hlt => ?_) (by simp [World.setCell]) _ _ _ h
  have hne : k ≠ b := fun e => hb (e ▸ hk)
  have e : ∀ (W : World) (o : Nat) (u : Value), (W.setCell ⟨b, o, none⟩ u).heap[k]? = W.heap[k]? := fun W o u => Below.heap_setCell _ _ _ _ hne
  rw [e, e, e, e]
end
end Go.Proofs.YtcodncddaemhlaaDoor

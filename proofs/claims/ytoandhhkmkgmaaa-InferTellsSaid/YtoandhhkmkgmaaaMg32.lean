/- Contracts: infer.suffix, infer.names; the reference's inner function 'good' of InferFault. Texts below 2^32 - 15 bytes. -/
import Derived.Test.YtoandhhkmkgmaaaMg19
import Derived.Test.YtoandhhkmkgmaaaMg30
import Derived.Test.YtoandhhkmkgmaaaShelfAny
import Derived.BigQuiet
import Derived.Deep.QuietTactic
namespace Go.Proofs.Ytoandhhkmkgmaaa
open Go.RowKit

theorem suf_short {s : KeyT} (h : s.length < 2) : sufB s = false := by unfold sufB; simp; omega
theorem suf_long {s : KeyT} (h : 10 < s.length) : sufB s = false := by unfold sufB; simp; omega
theorem suf_head {s : KeyT} {c : UInt8} (h : s[0]? = some c) (hc : c ≠ 46) : sufB s = false := by
  unfold sufB
  rw [h, show decide (some c = some (46 : UInt8)) = false by simpa using hc]
  simp
theorem suf_bad {s : KeyT} (h : goodName s = false) : sufB s = false := by unfold sufB; rw [h]; simp
theorem suf_rest {s : KeyT} (h1 : 2 ≤ s.length) (h2 : s.length ≤ 10) (h3 : s[0]? = some 46) (h4 : goodName s = true) : sufB s = !((s.drop 1).any dotSl) := by
  unfold sufB
  rw [h3, h4]
  simp [h1, h2]
theorem ixa_any : ∀ (l chars : List UInt8), Lib.containsAny l chars = l.any (fun c => chars.contains c)
  | [], _ => rfl
  | b :: l, chars => by
    have ih := ixa_any l chars
    unfold Lib.containsAny at ih ⊢
    rw [List.any_cons, ← ih]
    have hge := Lib.indexAny_ge chars l
    rw [show Lib.indexAny (b :: l) chars = (if chars.contains b then 0 else if Lib.indexAny l chars == -1 then -1 else Lib.indexAny l chars + 1) from rfl]
    generalize Lib.indexAny l chars = q at *
    cases chars.contains b with
    | true => simp
    | false =>
      by_cases he : q = -1
      · subst he; rfl
      · have e2 : (q == -1) = false := by simpa using he
        have h0 : 0 ≤ q := by omega
        have h1 : 0 ≤ q + 1 := by omega
        simp only [Bool.false_eq_true, if_false, e2, Bool.false_or, h0, h1]
theorem dotSl_eq : (fun c : UInt8 => ([46, 47] : List UInt8).contains c) = dotSl := by
  funext c
  unfold dotSl
  simp [List.contains, List.elem]
  by_cases h : c = 46
  · subst h; rfl
  · by_cases h2 : c = 47
    · subst h2; rfl
    · have e1 : (c == 46) = false := by simpa using h
      have e2 : (c == 47) = false := by simpa using h2
      simp [e1, e2, h, h2]
theorem sgn_ascii {c : UInt8} (h : sgn c = true) : c.toNat < 128 := by rcases (sgn_iff c).1 h with h | h | h | h | h | h | h | h <;> omega
theorem good_sgn {s : KeyT} (h : goodName s = true) : ∀ c ∈ s, sgn c = true := by
  unfold goodName at h
  simp only [Bool.and_eq_true] at h
  exact List.all_eq_true.1 h.1
def dsB : ByteArray := ⟨#[46, 47]⟩
theorem contDs_any (s : KeyT) (w : World) (h2 : s.length ≤ 10) (h4 : goodName s = true) :
    Calls Try.prog 76 #[.string ⟨(s.drop 1).toArray⟩, .string dsB] w fun e w' => e = .returned (.bool ((s.drop 1).any dotSl)) ∧ Below w.heap.size w w' := by
  refine (Try.strings_ContainsAny (by intro w; kernel_rfl) ⟨(s.drop 1).toArray⟩ dsB w ?_ (by decide) (fun j b hj => ?_) (fun j b hj => ?_)).mono ?_
  · show (s.drop 1).toArray.size < _
    simp; omega
  · refine sgn_ascii (good_sgn h4 b ?_)
    exact List.mem_of_mem_drop (List.mem_of_getElem? hj)
  · have := List.mem_of_getElem? hj
    have e : dsB.data.toList = [46, 47] := rfl
    rw [e] at this
    simp at this
    rcases this with rfl | rfl <;> decide
  · rintro e w' ⟨rfl, hb⟩
    refine ⟨?_, hb⟩
    rw [ixa_any]
    have e : dsB.data.toList = [46, 47] := rfl
    rw [e, dotSl_eq]
set_option maxRecDepth 100000 in
set_option maxHeartbeats 2000000 in
theorem suffix_any (s : KeyT) (w : World) (hl : s.length ≤ 9223372036854775807) :
    Calls Try.prog 52 #[sv s] w fun e w' => e = .returned (.bool (sufB s)) ∧ Below w.heap.size w w' := by
  have HNC := Lib.hid (nmCheck_any s w hl)
  unfold sv at HNC ⊢
  have HB := Lib.hid (strIs s)
  have HEX := Lib.hid (ext_drop (strIs s) 1)
  have HCD := Lib.hid (fun W (h2 : s.length ≤ 10) (h4 : goodName s = true) => contDs_any s W h2 h4)
  generalize (⟨s.toArray⟩ : ByteArray) = b at *
  have hsz : b.size = s.length := HB.out.size
  go_enter Try.func52, Try.ntmps52
  by_cases h1 : s.length < 2
  · have HE := Lib.hid (suf_short h1)
    have a1 : ¬ (2 : Int) ≤ (b.size : Int) := by omega
    clear h1 hsz
    go_wp2_with fail
    go_ret
    exact ⟨by rw [HE.out]; rfl, Below.refl _ _⟩
  have a1 : (2 : Int) ≤ (b.size : Int) := by omega
  by_cases h2 : 10 < s.length
  · have HE := Lib.hid (suf_long h2)
    have a2 : ¬ (b.size : Int) ≤ (10 : Int) := by omega
    clear h1 h2 hsz
    go_wp2_with fail
    go_ret
    exact ⟨by rw [HE.out]; rfl, Below.refl _ _⟩
  have a2 : (b.size : Int) ≤ (10 : Int) := by omega
  have hb0 : 0 < b.size := by omega
  have HX := Lib.hid (HB.out.at_ hb0)
  by_cases h3 : b[0] = 46
  · have a3 : ((b[0].toNat : Int) == 46) = true := by rw [h3]; rfl
    have H3 : Hid (s[0]? = some 46) := Lib.hid (by rw [HX.out, h3])
    clear h3
    cases h4 : goodName s with
    | true =>
      have HE := Lib.hid (suf_rest (s := s) (by omega) (by omega) H3.out h4)
      have HC := Lib.hid (fun W => HCD.out W (by omega) h4)
      have HZ : Hid (nameErr s = 0) := Lib.hid (nameErr_good h4)
      have a5 : (1 : Int) ≤ (b.size : Int) := by omega
      clear h1 h2 h4 hsz HCD
      rw [HZ.out] at HNC
      generalize (s.drop 1).any dotSl = R at *
      go_wp2_with fail
      refine HNC.out.mono ?_
      rintro e w' ⟨rfl, rfl⟩
      rw [← HEX.out] at HC
      unfold dsB at HC
      go_wp2_with fail
      refine (HC.out _).mono ?_
      rintro e w' ⟨rfl, hb⟩
      have HBB := Lib.hid hb
      clear hb
      go_wp2_with fail
      go_ret
      exact ⟨by rw [HE.out]; rfl, HBB.out⟩
    | false =>
      have HE := Lib.hid (suf_bad h4)
      have HZ : Hid (nameErr s = 3) := Lib.hid (nameErr_bad h4)
      clear h1 h2 h4 hsz
      rw [HZ.out] at HNC
      go_wp2_with fail
      refine HNC.out.mono ?_
      rintro e w' ⟨rfl, rfl⟩
      go_wp2_with fail
      go_ret
      exact ⟨by rw [HE.out]; rfl, Below.refl _ _⟩
  · have HE := Lib.hid (suf_head HX.out h3)
    have a3 : ((b[0].toNat : Int) == 46) = false := by
      have := byte_not (n := 46) (c := b[0]) (by decide)
      rw [Bool.eq_false_iff]
      intro e
      exact h3 (byte_is (n := 46) (by decide) (by simpa using e))
    clear h1 h2 h3 hsz
    go_wp2_with fail
    go_ret
    exact ⟨by rw [HE.out]; rfl, Below.refl _ _⟩
set_option maxRecDepth 100000 in
set_option maxHeartbeats 1000000 in
theorem infNames_any {A : Option Addr} {n c : Nat} (l : List (List UInt8)) (w : World) (hr : Rd w A (l.map sv)) (hn : l.length = n) (hb : n ≤ 8800000000000) (hs : StrsOk l) :
    Calls Try.prog 39 #[.slice A n c] w fun e w' => e = .returned (.int .i64 (namesErr l)) ∧ Below w.heap.size w w' := by
  have HS := Lib.hid (nSort_any (c := c) l w hr hn hb hs)
  clear hr hn hs
  go_enter Try.func39, Try.ntmps39
  go_wp2_with fail
  refine HS.out.mono ?_
  rintro e w' ⟨A', c', rfl, _, hb'⟩
  have HB := Lib.hid hb'
  clear hb'
  go_wp2_with fail
  go_ret
  exact ⟨rfl, HB.out⟩
end Go.Proofs.Ytoandhhkmkgmaaa

/- Contracts: glob.Quote, glob.Plain. -/
import Derived.Test.YtjdfmmjadjggjaaGlob6
import Derived.Test.YtjdfmmjadjggjaaBld
namespace Go.Proofs.Ytjdfmmjadjggjaa
open Go.RowKit

theorem quo_fin : ∀ n : Fin 256, decide (0 ≤ Lib.indexByte [42, 63, 91, 93, 92] (UInt8.ofNat n.val)) = quoG (UInt8.ofNat n.val) := by decide +kernel
theorem quo_ix (c : UInt8) : decide (0 ≤ Lib.indexByte [42, 63, 91, 93, 92] c) = quoG c := by
  have h := quo_fin ⟨c.toNat, c.toNat_lt⟩
  have e : UInt8.ofNat c.toNat = c := by simp
  simp only [e] at h
  exact h
theorem bytes_snoc (T : List UInt8) (c : UInt8) : Lib.byteCells T ++ [.int .u8 (c.toNat : Int)] = Lib.byteCells (T ++ [c]) := by unfold Lib.byteCells; rw [List.map_append]; rfl
theorem take_snocG {α : Type} {s : List α} {i : Nat} {c : α} (h : s[i]? = some c) : s.take (i + 1) = s.take i ++ [c] := by rw [List.take_add_one, h]; rfl
theorem quote_step {s : List UInt8} {i : Nat} {c : UInt8} (h : s[i]? = some c) : quoteG (s.take (i + 1)) = quoteG (s.take i) ++ (if quoG c then [92, c] else [c]) := by rw [take_snocG h, quoteG_snoc]
theorem quote_le (s : List UInt8) (i : Nat) : (quoteG (s.take i)).length ≤ (quoteG s).length := by
  have h := quoteG_mono (s.take i) (s.drop i)
  rwa [List.take_append_drop] at h
def quoS (s : List UInt8) : List UInt8 := if 60 < (quoteG s).length then [] else quoteG s
def quoE (s : List UInt8) : Nat := if 60 < (quoteG s).length then 2 else 0
theorem bldInit (w : World) : Lib.IsBuilder 77 5 w.heap.size w.heap.size (Lib.byteCells []) (w.alloc (.cells #[.pointer none, .slice none 0 0] 77)) := .inl ⟨Nat.le_refl _, .slice none 0 0, heap_alloc_new w _, World.ownsRow_nil _ _ _ _, by simp [Value.ownBlock]⟩
theorem bldByte (B b : Nat) (T : List UInt8) (c : UInt8) (w : World) (h : Lib.IsBuilder 77 5 B b (Lib.byteCells T) w) (hlen : T.length ≤ 1000) (hBw : B ≤ w.heap.size) :
    Calls Try.prog 43 #[.pointer (some ⟨b, 0, none⟩), .int .u8 (c.toNat : Int)] w fun e w' => e = .returned .nilIface ∧ Lib.IsBuilder 77 5 B b (Lib.byteCells (T ++ [c])) w' ∧ Below B w w' := by
  refine (bld_byte B b (Lib.byteCells T) (c.toNat : Int) w h (by rw [Lib.byteCells_length]; omega) hBw).mono ?_
  rintro e w' ⟨rfl, h1, h2, _⟩
  rw [bytes_snoc] at h1
  exact ⟨rfl, .inr h1, h2⟩
set_option maxRecDepth 100000 in
set_option maxHeartbeats 2000000 in
theorem glQuote_any (s : List UInt8) (hl : s.length ≤ 9223372036854775807) (w : World) :
    Calls Try.prog 7 #[.string ⟨s.toArray⟩] w fun e w' => e = .returned (.tuple #[.string ⟨(quoS s).toArray⟩, .int .i64 (quoE s : Int)]) ∧ Below w.heap.size w w' := by
  have HS := Lib.hid (strIs s)
  generalize (⟨s.toArray⟩ : ByteArray) = b at *
  have hsz : b.size = s.length := HS.out.size
  have HSZ := Lib.hid hsz
  have hszb : b.size ≤ 9223372036854775807 := by omega
  have HBI := Lib.hid (bldInit w)
  have HB := Lib.hid (below_new (Below.refl w.heap.size w) (.cells #[.pointer none, .slice none 0 0] 77))
  clear hsz hl
  go_enter Try.func7, Try.ntmps7
  go_upto_region 2 with fail
  generalize w.alloc (.cells #[.pointer none, .slice none 0 0] 77) = w1 at *
  go_wp2_with fail
  go_loopw [8] (fun x wr => ∃ i : Nat, x = .int .i64 (i : Int) ∧ i ≤ b.size ∧ Hid ((quoteG (s.take i)).length ≤ 60) ∧ Hid (Lib.IsBuilder 77 5 w.heap.size w.heap.size (Lib.byteCells (quoteG (s.take i))) wr) ∧ Hid (Below w.heap.size w wr)) (fun x _ => b.size - (intOf x).toNat)
  case atStart => exact ⟨0, rfl, by omega, Lib.hid (by simp [quoteG]), HBI, HB⟩
  case round =>
    clear HBI HB
    obtain ⟨i, rfl, hi, HL, HBI, HBW⟩ := hrel
    by_cases hlt : i < b.size
    · have HQS := Lib.hid (quote_step (HS.out.at_ hlt))
      have HQL := Lib.hid (quote_le s (i + 1))
      have HIX := Lib.hid (fun W => Try.strings_IndexByte ⟨#[42, 63, 91, 93, 92]⟩ ((b[i]).toNat : Int) W)
      have HQI := Lib.hid (quo_ix b[i])
      have hsw : w.heap.size ≤ wr.heap.size := HBW.out.size
      cases hq : quoG b[i] with
      | true =>
        have hq2 : decide (0 ≤ Lib.indexByte [42, 63, 91, 93, 92] b[i]) = true := HQI.out.trans hq
        rw [hq] at HQS
        clear hq
        go_wp2_with fail
        refine (HIX.out _).mono ?_
        rintro e w2 ⟨rfl, rfl⟩
        go_wp2_with fail
        refine (bldByte w.heap.size w.heap.size (quoteG (s.take i)) 92 w2 HBI.out (by have := HL.out; omega) HBW.out.size).mono ?_
        rintro e w3 ⟨rfl, hbi3, hb3⟩
        have HB3 := Lib.hid (HBW.out.trans hb3)
        have HI3 := Lib.hid hbi3
        clear hbi3 hb3
        go_wp2_with fail
        refine (bldByte w.heap.size w.heap.size (quoteG (s.take i) ++ [92]) b[i] w3 HI3.out (by have := HL.out; simp; omega) HB3.out.size).mono ?_
        rintro e w5 ⟨rfl, hbi5, hb5⟩
        have HB5 := Lib.hid (HB3.out.trans hb5)
        have HI5 : Hid (Lib.IsBuilder 77 5 w.heap.size w.heap.size (Lib.byteCells (quoteG (s.take (i + 1)))) w5) := Lib.hid (by rw [show quoteG (s.take (i + 1)) = quoteG (s.take i) ++ [92] ++ [b[i]] by rw [HQS.out]; simp]; exact hbi5)
        clear hbi5 hb5
        have HLN := Lib.hid (Try.Builder_Len w.heap.size w.heap.size (Lib.byteCells (quoteG (s.take (i + 1)))) w5 HI5.out)
        have hbc : (Lib.byteCells (quoteG (s.take (i + 1)))).length = (quoteG (s.take (i + 1))).length := Lib.byteCells_length _
        rw [hbc] at HLN
        clear hbc
        go_wp2_with fail
        refine HLN.out.mono ?_
        rintro e w6 ⟨rfl, rfl⟩
        by_cases h60 : 60 < (quoteG (s.take (i + 1))).length
        · have HQ1 : Hid (quoS s = []) := Lib.hid (by unfold quoS; rw [if_pos (Nat.lt_of_lt_of_le h60 HQL.out)])
          have HQ2 : Hid (quoE s = 2) := Lib.hid (by unfold quoE; rw [if_pos (Nat.lt_of_lt_of_le h60 HQL.out)])
          have h60i : (60 : Int) < ((quoteG (s.take (i + 1))).length : Int) := by omega
          clear h60
          go_wp2_with fail
          go_ret2
          exact ⟨by rw [HQ1.out, HQ2.out]; rfl, HB5.out⟩
        · have HL6 : Hid ((quoteG (s.take (i + 1))).length ≤ 60) := Lib.hid (by omega)
          have h60i : ((quoteG (s.take (i + 1))).length : Int) ≤ 60 := by omega
          clear h60
          go_wp2_with fail
          exact ⟨⟨i + 1, rfl, by omega, HL6, HI5, HB5⟩, by simp only [intOf]; omega⟩
      | false =>
        have hq2 : decide (0 ≤ Lib.indexByte [42, 63, 91, 93, 92] b[i]) = false := HQI.out.trans hq
        rw [hq] at HQS
        clear hq
        go_wp2_with fail
        refine (HIX.out _).mono ?_
        rintro e w2 ⟨rfl, rfl⟩
        go_wp2_with fail
        refine (bldByte w.heap.size w.heap.size (quoteG (s.take i)) b[i] w2 HBI.out (by have := HL.out; omega) HBW.out.size).mono ?_
        rintro e w5 ⟨rfl, hbi5, hb5⟩
        have HB5 := Lib.hid (HBW.out.trans hb5)
        have HI5 : Hid (Lib.IsBuilder 77 5 w.heap.size w.heap.size (Lib.byteCells (quoteG (s.take (i + 1)))) w5) := Lib.hid (by rw [show quoteG (s.take (i + 1)) = quoteG (s.take i) ++ [b[i]] by rw [HQS.out]; simp]; exact hbi5)
        clear hbi5 hb5
        have HLN := Lib.hid (Try.Builder_Len w.heap.size w.heap.size (Lib.byteCells (quoteG (s.take (i + 1)))) w5 HI5.out)
        have hbc : (Lib.byteCells (quoteG (s.take (i + 1)))).length = (quoteG (s.take (i + 1))).length := Lib.byteCells_length _
        rw [hbc] at HLN
        clear hbc
        go_wp2_with fail
        refine HLN.out.mono ?_
        rintro e w6 ⟨rfl, rfl⟩
        by_cases h60 : 60 < (quoteG (s.take (i + 1))).length
        · have HQ1 : Hid (quoS s = []) := Lib.hid (by unfold quoS; rw [if_pos (Nat.lt_of_lt_of_le h60 HQL.out)])
          have HQ2 : Hid (quoE s = 2) := Lib.hid (by unfold quoE; rw [if_pos (Nat.lt_of_lt_of_le h60 HQL.out)])
          have h60i : (60 : Int) < ((quoteG (s.take (i + 1))).length : Int) := by omega
          clear h60
          go_wp2_with fail
          go_ret2
          exact ⟨by rw [HQ1.out, HQ2.out]; rfl, HB5.out⟩
        · have HL6 : Hid ((quoteG (s.take (i + 1))).length ≤ 60) := Lib.hid (by omega)
          have h60i : ((quoteG (s.take (i + 1))).length : Int) ≤ 60 := by omega
          clear h60
          go_wp2_with fail
          exact ⟨⟨i + 1, rfl, by omega, HL6, HI5, HB5⟩, by simp only [intOf]; omega⟩
    · obtain rfl : i = b.size := by omega
      have HT : Hid (quoteG (s.take b.size) = quoteG s) := Lib.hid (by rw [List.take_of_length_le (by rw [HSZ.out]; exact Nat.le_refl _)])
      have HQ1 : Hid (quoS s = quoteG s) := Lib.hid (by unfold quoS; rw [if_neg (by rw [← HT.out]; have := HL.out; omega)])
      have HQ2 : Hid (quoE s = 0) := Lib.hid (by unfold quoE; rw [if_neg (by rw [← HT.out]; have := HL.out; omega)])
      go_wp2_with fail
      refine (Try.Builder_String_any w.heap.size w.heap.size (quoteG (s.take b.size)) wr HBI.out HBW.out.size).mono ?_
      rintro e w3 ⟨rfl, hb3⟩
      have HB3 := Lib.hid (HBW.out.trans hb3)
      clear hb3
      go_wp2_with fail
      go_ret2
      exact ⟨by rw [HQ1.out, HQ2.out, ← HT.out]; rfl, HB3.out⟩
end Go.Proofs.Ytjdfmmjadjggjaa

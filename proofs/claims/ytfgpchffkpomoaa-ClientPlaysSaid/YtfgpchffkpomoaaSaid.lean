/- What a client asks and what it does with bytes; a body that is rightly signed is opened as it was: in plain words. -/
import Derived.Test.YtfgpchffkpomoaaCli
import Derived.Test.YtfgpchffkpomoaaPk09
import Derived.Test.YtfgpchffkpomoaaUnlike
import Derived.Test.YtfgpchffkpomoaaPlainBd
namespace Go.Proofs.Ytfgpchffkpomoaa
set_option linter.unusedSimpArgs false
set_option linter.unusedVariables false
open Go.RowKit

/-- A client's request (1), or a replica's reply (10). -/
def cliB (k client stamp : Int) (text : ByteArray) : Bd := ⟨k, 0, 0, client, stamp, ⟨#[]⟩, text, []⟩
/-- What a client asks at a key. -/
def askB (client : Int) (text : ByteArray) : Bd := ⟨12, 0, 0, client, 0, ⟨#[]⟩, text, []⟩
theorem cli_flags (k client stamp : Int) (text : ByteArray) (hs : stamp ≠ 0) : (cliB k client stamp text).mask = (if client = 0 then 0 else 4) + 8 + (if text.size = 0 then 0 else 32) := by
  have ht := has_text text
  unfold Bd.mask Bd.flags cliB
  rcases Nat.eq_zero_or_pos text.size with h2 | h2
  · rw [decide_eq_false (by omega)] at ht
    have h3 : text.toList.isEmpty = true := by simpa using ht
    simp only [h3, if_pos h2]
    by_cases h1 : client = 0
    · simp [h1, hs, maskOf]
    · simp [h1, hs, maskOf]
  · rw [decide_eq_true h2] at ht
    have h3 : text.toList.isEmpty = false := by simpa using ht
    simp only [h3, if_neg (show ¬ text.size = 0 by omega)]
    by_cases h1 : client = 0
    · simp [h1, hs, maskOf]
    · simp [h1, hs, maskOf]
theorem cli_right {k client stamp : Int} {text : ByteArray} (hk : k = 1 ∨ k = 10) (hc : 0 ≤ client ∧ client ≤ 15) (hs : 1 ≤ stamp ∧ stamp ≤ 1099511627776) (ht : text.size ≤ 256) : rightE (cliB k client stamp text) = 0 := by
  have hm := cli_flags k client stamp text (by omega)
  have ha : partA (cliB k client stamp text) = true := by unfold partA cliB; simp; omega
  have hc : partC (cliB k client stamp text) = true := by unfold partC cliB; rcases hk with rfl | rfl <;> rfl
  have hb : partB (cliB k client stamp text) = true := by
    unfold partB
    rw [hm]
    unfold partBr
    have e1 : (cliB k client stamp text).text = text := rfl
    have e2 : (cliB k client stamp text).digest = ⟨#[]⟩ := rfl
    have e3 : (cliB k client stamp text).list = [] := rfl
    have e4 : (cliB k client stamp text).kind = k := rfl
    rw [e1, e2, e3, e4]
    simp only [Bool.and_eq_true, decide_eq_true_eq]
    rcases hk with rfl | rfl
    · refine ⟨by decide, by show text.size ≤ 256; omega, by decide, ?_, ?_, by decide⟩ <;> (split <;> split <;> decide +kernel)
    · refine ⟨by decide, by show text.size ≤ 256; omega, by decide, ?_, ?_, by decide⟩ <;> (split <;> split <;> decide +kernel)
  unfold rightE
  rw [if_neg (by unfold cliB; rcases hk with rfl | rfl <;> simp), ha, hb, hc]
  rfl
theorem small_bytes {b : Bd} (hr : rightE b = 0) (hl : b.list = []) (ht : b.text.size ≤ 1000) : (bytesE b).2 = 0 := by
  have h := right_ok hr
  unfold bytesE
  rw [if_pos hr, if_neg]
  have n1 := putNum_len 8 b.kind.toNat (by omega)
  have n2 := putNum_len 8 b.view.toNat (by omega)
  have n3 := putNum_len 8 b.seq.toNat (by omega)
  have n4 := putNum_len 8 b.client.toNat (by omega)
  have n5 := putNum_len 8 b.stamp.toNat (by omega)
  have n6 := putNum_len 8 b.digest.size (by omega)
  have n7 := putNum_len 8 b.text.size (by omega)
  have n8 := putNum_len 8 0 (by omega)
  rw [putBody_eq, hl]
  simp only [List.length_append, putText_length, List.flatMap_nil, List.length_nil]
  omega
/-- Sealed by one who may be: the message, and what was signed then. -/
theorem sealE_ok {S : List Wd} {who : Int} {b : Bd} (hw : 0 ≤ who ∧ who ≤ 255) (hb : (bytesE b).2 = 0) :
    ∃ p, sealE S who b = ((⟨who, (bytesE b).1, sigOf p⟩, 0), (signE S who (bytesE b).1).2) ∧ place (who, (bytesE b).1) (signE S who (bytesE b).1).2 = some p := by
  have hn : namedB who = true := by simpa [namedB] using hw
  obtain ⟨p, h1, h2⟩ := signE_place (S := S) (s := (bytesE b).1) hn
  have h3 : (signE S who (bytesE b).1).1.2 = 0 := by unfold signE; rw [if_pos hw]
  refine ⟨p, ?_, h1⟩
  unfold sealE
  rw [if_pos hb, if_pos h3, h2]
theorem ofSg_back {m : Sg} (h : fitsB m = true) : ofSg (bs (putSg m)) = (m, 0) := by
  obtain ⟨f1, f2, f3, f4⟩ := (fitsB_iff m).1 h
  have hl := putSg_len h
  rw [ofSg_short_eq (by rw [bs_size]; omega), signed_put f1 (by omega) f3 (by omega) (at_self _)]
  simp only
  rw [if_neg (by rw [bs_size]; omega), if_pos h]
/-- What was sealed is read and opened as it was. -/
structure Said (S : List Wd) (who : Int) (b : Bd) (m : Sg) : Prop where
  who : m.who = who
  fits : fitsB m = true
  reads : ofSg (bs (putSg m)) = (m, 0)
  opens : openE S m = (b, 0)
theorem seal_said {S : List Wd} {who : Int} {b : Bd} (hw : 0 ≤ who ∧ who ≤ 255) (hb : (bytesE b).2 = 0) : ∃ m S', sealE S who b = ((m, 0), S') ∧ Said S' who b m ∧ S'.length ≤ S.length + 1 := by
  obtain ⟨p, h1, h2⟩ := sealE_ok (S := S) hw hb
  have hsz := bytesE_size b
  have hf : fitsB ⟨who, (bytesE b).1, sigOf p⟩ = true := by
    rw [fitsB_iff]
    have h2 := sigOf_size p
    exact ⟨hw.1, hw.2, hsz, by simp only; omega⟩
  refine ⟨_, _, h1, ⟨rfl, hf, ofSg_back hf, ?_⟩, signE_length⟩
  unfold openE
  rw [if_pos]
  · exact (of_bytes (b := b) (s := (bytesE b).1) (by rw [← hb])).1
  · unfold checkE checkS
    simp only
    rw [h2, decide_eq_true hw]
    simp
theorem reply_said {S : List Wd} {who client stamp : Int} {text : ByteArray} (hw : 0 ≤ who ∧ who ≤ 255) (hc : 0 ≤ client ∧ client ≤ 15) (hs : 1 ≤ stamp ∧ stamp ≤ 1099511627776) (ht : text.size ≤ 256) :
    ∃ m S', sealE S who (cliB 10 client stamp text) = ((m, 0), S') ∧ Said S' who (cliB 10 client stamp text) m ∧ S'.length ≤ S.length + 1 :=
  seal_said hw (small_bytes (cli_right (.inr rfl) hc hs ht) rfl (by show text.size ≤ 1000; omega))
theorem request_said {S : List Wd} {who client stamp : Int} {text : ByteArray} (hw : 0 ≤ who ∧ who ≤ 255) (hc : 0 ≤ client ∧ client ≤ 15) (hs : 1 ≤ stamp ∧ stamp ≤ 1099511627776) (ht : text.size ≤ 256) :
    ∃ m S', sealE S who (cliB 1 client stamp text) = ((m, 0), S') ∧ Said S' who (cliB 1 client stamp text) m ∧ S'.length ≤ S.length + 1 :=
  seal_said hw (small_bytes (cli_right (.inl rfl) hc hs ht) rfl (by show text.size ≤ 1000; omega))

/-- What a client does with a body that was rightly signed. -/
def hearE (y : Cl) (who : Int) (b : Bd) : Bool × Cl :=
  if b.kind ≠ 10 ∨ b.client ≠ y.id ∨ b.stamp ≠ y.stamp then (false, y)
  else if y.told.any (fun x => decide (x.1 = who)) = true then (false, y)
  else if y.F < (alike b.text (y.told ++ [(who, b.text)]) : Int) then (true, { y with told := y.told ++ [(who, b.text)], waits := false, ans := y.ans ++ [⟨y.stamp, b.text⟩] })
  else (true, { y with told := y.told ++ [(who, b.text)] })
/-- What a client does with bytes. -/
def recvE (S : List Wd) (y : Cl) (s : ByteArray) : Bool × Cl :=
  if y.waits = false then (false, y)
  else if (ofSg s).2 ≠ 0 ∨ 3 * y.F < (ofSg s).1.who then (false, y)
  else if (openE S (ofSg s).1).2 ≠ 0 then (false, y)
  else hearE y (ofSg s).1.who (openE S (ofSg s).1).1
theorem recv_said {S : List Wd} {who : Int} {b : Bd} {m : Sg} (h : Said S who b m) (y : Cl) : recvE S y (bs (putSg m)) = if y.waits = false ∨ 3 * y.F < who then (false, y) else hearE y who b := by
  unfold recvE
  rw [h.reads]
  simp only
  rw [h.opens, h.who]
  by_cases h1 : y.waits = false
  · rw [if_pos h1, if_pos (.inl h1)]
  · rw [if_neg h1]
    by_cases h2 : 3 * y.F < who
    · rw [if_pos (.inr h2), if_pos (.inr h2)]
    · rw [if_neg (by simp [h2]), if_neg (by simp), if_neg (by simp [h1, h2])]
end Go.Proofs.Ytfgpchffkpomoaa

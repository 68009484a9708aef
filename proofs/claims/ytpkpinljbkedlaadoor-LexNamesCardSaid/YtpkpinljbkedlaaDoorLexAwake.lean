/- Layer 16's awake returns true. -/
import Derived.Test.YtpkpinljbkedlaaDoorLexSame
namespace Go.Proofs.YtpkpinljbkedlaaDoor
open Go.RowKit Mem
set_option linter.unusedVariables false
def awK : List Lx.Tk := [⟨1, 0, ⟨#[97, 100, 100, 46, 119]⟩⟩, ⟨1, 0, ⟨#[114, 48]⟩⟩, ⟨3, 0, ⟨#[44]⟩⟩, ⟨3, 0, ⟨#[35]⟩⟩, ⟨2, 16, ⟨#[]⟩⟩]
theorem aw_line : Lx.lexS ⟨#[97, 100, 100, 46, 119, 32, 114, 48, 44, 32, 35, 48, 120, 49, 48, 32, 64, 32, 120]⟩ = some awK := by decide +kernel
theorem aw_none : Lx.lexS ⟨#[65]⟩ = none := by decide +kernel
theorem aw_show : Lx.ba (Lx.show_ awK) = ⟨#[97, 100, 100, 46, 119, 32, 114, 48, 32, 44, 32, 35, 32, 49, 54]⟩ := by decide +kernel
theorem aw_n1 : nameB [120, 95, 49] = true := by decide +kernel
theorem aw_n2 : nameB [46, 120] = false := by decide +kernel
theorem line_good {s : ByteArray} {ks : List Lx.Tk} (h : Lx.lexS s = some ks) : (∀ k ∈ ks, Lx.Good k) ∧ ks.length ≤ 256 := by
  unfold Lx.lexS at h
  split at h
  · cases h
  · have := Lx.lex_good _ _ ks (Nat.le_refl _) h
    refine ⟨this.1, ?_⟩
    have h2 := this.2
    simp at h2; omega
set_option maxRecDepth 100000 in
set_option maxHeartbeats 2000000 in
theorem awake_true (w : World) : Calls Tryd.prog 9 #[] w fun e w' => e = .returned (.bool true) ∧ Below w.heap.size w w' := by
  have HK := Lib.hid aw_line; have HN := Lib.hid aw_none; have HS := Lib.hid aw_show; have H1 := Lib.hid aw_n1; have H2 := Lib.hid aw_n2
  have hg := tok_eqG
  have he0 := tok_same ⟨1, 0, ⟨#[97, 100, 100, 46, 119]⟩⟩
  have he4 := tok_same ⟨2, 16, ⟨#[]⟩⟩
  simp only at he0 he4
  go_enter Tryd.func9, Tryd.ntmps9
  go_wp2_with fail
  refine (lex_Line _ _ (by decide)).mono ?_
  rintro e w1 ⟨A, n, c, rfl, ht, hb⟩
  rw [HK.out] at ht ⊢
  obtain rfl : n = 5 := ht.len.symm
  have HT := Lib.hid ht; have HB := Lib.hid hb
  clear ht hb
  go_wp2_with fail
  refine (lex_Line _ _ (by decide)).mono ?_
  rintro e w2 ⟨A', n', c', rfl, ht, hb2⟩
  rw [HN.out]
  have HT2 := Lib.hid ((HT.out.below hb2).more hb2.size)
  have HB2 := Lib.hid (HB.out.trans (hb2.mono HB.out.size))
  clear ht hb2
  obtain ⟨ad, p, t, rfl, hp, hpb, hkt, c0, c1, c2⟩ := HT2.out.get (k := 0) (by omega)
  cases hkt
  obtain ⟨ad', q, t, hq0, hq, hqb, hkt, d0, d1, d2⟩ := HT2.out.get (k := 4) (by omega)
  cases hq0
  cases hkt
  simp only [Nat.zero_mul, Mem.add_zero] at hp
  subst hp
  simp only at c0 c1 c2 d0 d1 d2
  go_wp2_with fail
  refine (lex_Show _ _ _ awK _ HT2.out (by omega) (line_good HK.out).1).mono ?_
  rintro e w3 ⟨rfl, hb3⟩
  rw [HS.out]
  have HB3 := Lib.hid (HB2.out.trans (hb3.mono HB2.out.size))
  clear hb3
  go_wp2_with fail
  refine (lex_Name _ _ (by decide)).mono ?_
  rintro e w3 ⟨rfl, rfl⟩
  rw [show nameB (⟨#[120, 95, 49]⟩ : ByteArray).data.toList = true from H1.out]
  go_wp2_with fail
  refine (lex_Name _ _ (by decide)).mono ?_
  rintro e w3 ⟨rfl, rfl⟩
  rw [show nameB (⟨#[46, 120]⟩ : ByteArray).data.toList = false from H2.out]
  go_wp2
  go_ret
  exact ⟨rfl, HB3.out⟩
end Go.Proofs.YtpkpinljbkedlaaDoor

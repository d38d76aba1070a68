/- The reference's calls, as the statements make them. -/
import Derived.Test.YtjlchphbkmaacaaGreatDoorHl
set_option linter.unusedVariables false
set_option linter.unusedSimpArgs false
namespace Go.Proofs.YtjlchphbkmaacaaGreatDoor
open Go.RowKit Go.MapKept Go.ChangeMaps Go.Maps
attribute [local go_sem ↓] Go.wp_at_zero Go.wp_at_succ
open Dk

section
variable {σ : Nat → Option Role} {w : World} {rd : Nat} {s : St} {vF : Value} {fv lv : Nm → Value}
set_option maxRecDepth 100000 in
set_option maxHeartbeats 4000000 in
theorem rdo_any (h : RefX σ w rd s vF fv lv) (hg : Fine s) (A : ActV) (hA : A.Ok σ w) (hpr : 0 < A.mb → ∀ a, A.pb = some a → σ a.block = none) :
    Calls Tryz.prog 8 #[.pointer (some ⟨rd, 0, none⟩), A.val] w (RefPost σ w rd (doF A s)) := by
  have HG := Lib.hid hg
  obtain ⟨what, nm, ot, pb, mb, cb, bs, n, pp, mp, cp, picks⟩ := A
  have hb0 : Below w.heap.size w (w.alloc (.cells #[Value.int IntKind.i64 what, Value.string nm, Value.string ot, Value.slice pb mb cb, Value.int IntKind.i64 n, Value.slice pp mp cp] 34)) := bel_alloc (Below.refl _ _) _
  have H := Lib.hid (h.below hb0)
  have HB := Lib.hid hb0
  have HNM := Lib.hid (And.intro hA.nm hA.ot)
  have HBY := Lib.hid (And.intro (hA.b.keep fun a _ hlt => hb0.block _ hlt : BytesAt (w.alloc (.cells #[Value.int IntKind.i64 what, Value.string nm, Value.string ot, Value.slice pb mb cb, Value.int IntKind.i64 n, Value.slice pp mp cp] 34)) pb mb bs) (And.intro hA.bc (And.intro hpr hA.bm)))
  have HP := Lib.hid (show PicksAt σ (w.alloc (.cells #[Value.int IntKind.i64 what, Value.string nm, Value.string ot, Value.slice pb mb cb, Value.int IntKind.i64 n, Value.slice pp mp cp] 34)) pp mp picks from ⟨hA.p.len, hA.p.small, hA.p.fr (Fr.of_below hb0), hA.p.out⟩)
  have HT := Lib.hid (show TornAt σ (w.alloc (.cells #[Value.int IntKind.i64 what, Value.string nm, Value.string ot, Value.slice pb mb cb, Value.int IntKind.i64 n, Value.slice pp mp cp] 34)) pb mb bs from ⟨HBY.out.1.len, fun j hj => bytes_torn HBY.out.1 hj, hpr⟩)
  clear h hg hA hpr hb0
  unfold ActV.val
  dsimp only
  go_enter Tryz.func8, Tryz.ntmps8
  by_cases h0 : what = 0
  · subst h0
    have HDO := Lib.hid (show doF ⟨0, nm, ot, pb, mb, cb, bs, n, pp, mp, cp, picks⟩ s = create nm.data.toList s from rfl)
    go_wp2_with fail
    refine (rcreate_any H.out HG.out nm HNM.out.1).mono ?_
    rintro e w3 ⟨rfl, σ3, hr3, hf3⟩
    generalize hr : create nm.data.toList s = r at *
    have HR3 := Lib.hid hr3
    have HF3 := Lib.hid hf3
    clear hr hr3 hf3
    go_wp2_with fail
    go_ret
    rw [HDO.out]
    exact ⟨rfl, σ3, HR3.out, (Fr.of_below HB.out).trans HF3.out⟩
  by_cases h1 : what = 1
  · subst h1
    have HDO := Lib.hid (show doF ⟨1, nm, ot, pb, mb, cb, bs, n, pp, mp, cp, picks⟩ s = append nm.data.toList bs s from rfl)
    go_wp2_with fail
    refine (rappend_any H.out HG.out nm HNM.out.1 pb mb cb bs HBY.out.1 HBY.out.2.1 HBY.out.2.2.1 HBY.out.2.2.2).mono ?_
    rintro e w3 ⟨rfl, σ3, hr3, hf3⟩
    generalize hr : append nm.data.toList bs s = r at *
    have HR3 := Lib.hid hr3
    have HF3 := Lib.hid hf3
    clear hr hr3 hf3
    go_wp2_with fail
    go_ret
    rw [HDO.out]
    exact ⟨rfl, σ3, HR3.out, (Fr.of_below HB.out).trans HF3.out⟩
  by_cases h2 : what = 2
  · subst h2
    have HDO := Lib.hid (show doF ⟨2, nm, ot, pb, mb, cb, bs, n, pp, mp, cp, picks⟩ s = sync nm.data.toList s from rfl)
    go_wp2_with fail
    refine (rsync_any H.out HG.out nm HNM.out.1).mono ?_
    rintro e w3 ⟨rfl, σ3, hr3, hf3⟩
    generalize hr : sync nm.data.toList s = r at *
    have HR3 := Lib.hid hr3
    have HF3 := Lib.hid hf3
    clear hr hr3 hf3
    go_wp2_with fail
    go_ret
    rw [HDO.out]
    exact ⟨rfl, σ3, HR3.out, (Fr.of_below HB.out).trans HF3.out⟩
  by_cases h3 : what = 3
  · subst h3
    have HDO := Lib.hid (show doF ⟨3, nm, ot, pb, mb, cb, bs, n, pp, mp, cp, picks⟩ s = rename nm.data.toList ot.data.toList s from rfl)
    go_wp2_with fail
    refine (rrename_any H.out HG.out nm ot HNM.out.1 HNM.out.2).mono ?_
    rintro e w3 ⟨rfl, σ3, hr3, hf3⟩
    generalize hr : rename nm.data.toList ot.data.toList s = r at *
    have HR3 := Lib.hid hr3
    have HF3 := Lib.hid hf3
    clear hr hr3 hf3
    go_wp2_with fail
    go_ret
    rw [HDO.out]
    exact ⟨rfl, σ3, HR3.out, (Fr.of_below HB.out).trans HF3.out⟩
  by_cases h4 : what = 4
  · subst h4
    have HDO := Lib.hid (show doF ⟨4, nm, ot, pb, mb, cb, bs, n, pp, mp, cp, picks⟩ s = truncate nm.data.toList n s from rfl)
    go_wp2_with fail
    refine (rtruncate_any H.out HG.out nm HNM.out.1 n).mono ?_
    rintro e w3 ⟨rfl, σ3, hr3, hf3⟩
    generalize hr : truncate nm.data.toList n s = r at *
    have HR3 := Lib.hid hr3
    have HF3 := Lib.hid hf3
    clear hr hr3 hf3
    go_wp2_with fail
    go_ret
    rw [HDO.out]
    exact ⟨rfl, σ3, HR3.out, (Fr.of_below HB.out).trans HF3.out⟩
  by_cases h5 : what = 5
  · subst h5
    have HDO := Lib.hid (show doF ⟨5, nm, ot, pb, mb, cb, bs, n, pp, mp, cp, picks⟩ s = remove nm.data.toList s from rfl)
    go_wp2_with fail
    refine (rremove_any H.out HG.out nm HNM.out.1).mono ?_
    rintro e w3 ⟨rfl, σ3, hr3, hf3⟩
    generalize hr : remove nm.data.toList s = r at *
    have HR3 := Lib.hid hr3
    have HF3 := Lib.hid hf3
    clear hr hr3 hf3
    go_wp2_with fail
    go_ret
    rw [HDO.out]
    exact ⟨rfl, σ3, HR3.out, (Fr.of_below HB.out).trans HF3.out⟩
  by_cases h6 : what = 6
  · subst h6
    have HDO := Lib.hid (show doF ⟨6, nm, ot, pb, mb, cb, bs, n, pp, mp, cp, picks⟩ s = quota n s from rfl)
    go_wp2_with fail
    refine (rquota_any H.out n).mono ?_
    rintro e w3 ⟨rfl, σ3, hr3, hf3⟩
    generalize hr : quota n s = r at *
    have HR3 := Lib.hid hr3
    have HF3 := Lib.hid hf3
    clear hr hr3 hf3
    go_wp2_with fail
    go_ret
    rw [HDO.out]
    exact ⟨rfl, σ3, HR3.out, (Fr.of_below HB.out).trans HF3.out⟩
  by_cases h7 : what = 7
  · subst h7
    have HDO := Lib.hid (show doF ⟨7, nm, ot, pb, mb, cb, bs, n, pp, mp, cp, picks⟩ s = fuse n s from rfl)
    go_wp2_with fail
    refine (rfuse_any H.out n).mono ?_
    rintro e w3 ⟨rfl, σ3, hr3, hf3⟩
    generalize hr : fuse n s = r at *
    have HR3 := Lib.hid hr3
    have HF3 := Lib.hid hf3
    clear hr hr3 hf3
    go_wp2_with fail
    go_ret
    rw [HDO.out]
    exact ⟨rfl, σ3, HR3.out, (Fr.of_below HB.out).trans HF3.out⟩
  by_cases h8 : what = 8
  · subst h8
    have HDO := Lib.hid (show doF ⟨8, nm, ot, pb, mb, cb, bs, n, pp, mp, cp, picks⟩ s = (0, crash picks bs s) from rfl)
    go_wp2_with fail
    refine (rcrash_any H.out HG.out pp mp cp picks HP.out pb mb cb bs HT.out).mono ?_
    rintro e w3 ⟨rfl, σ3, hr3, hf3⟩
    have HR3 := Lib.hid hr3
    have HF3 := Lib.hid hf3
    clear hr3 hf3
    go_wp2_with fail
    go_ret
    rw [HDO.out]
    exact ⟨rfl, σ3, HR3.out, (Fr.of_below HB.out).trans HF3.out⟩
  have HDO := Lib.hid (show doF ⟨what, nm, ot, pb, mb, cb, bs, n, pp, mp, cp, picks⟩ s = (0, s) by simp [doF, h0, h1, h2, h3, h4, h5, h6, h7, h8])
  have n0 : (what == 0) = false := by simpa using h0
  have n1 : (what == 1) = false := by simpa using h1
  have n2 : (what == 2) = false := by simpa using h2
  have n3 : (what == 3) = false := by simpa using h3
  have n4 : (what == 4) = false := by simpa using h4
  have n5 : (what == 5) = false := by simpa using h5
  have n6 : (what == 6) = false := by simpa using h6
  have n7 : (what == 7) = false := by simpa using h7
  have n8 : (what == 8) = false := by simpa using h8
  clear h0 h1 h2 h3 h4 h5 h6 h7 h8
  go_wp2_with fail
  go_ret
  rw [HDO.out]
  exact ⟨rfl, σ, ⟨_, _, _, H.out⟩, Fr.of_below HB.out⟩
end
end Go.Proofs.YtjlchphbkmaacaaGreatDoor

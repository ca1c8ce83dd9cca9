/-
  ReplyBack, where what comes in is at most a million letters and values: what is written is read as it was, whatever stands behind; a beginning of it is not read: the law returns true. Conditions: what the listed variables hold (the card ties that), and the bound.
-/
import Derived.Test.YtlkbfehdiopkbaaGreatDoorCards
import Derived.Test.YtlkbfehdiopkbaaGreatDoorTie
import Derived.Test.YtlkbfehdiopkbaaGreatDoorRepRow
import Derived.Test.YtlkbfehdiopkbaaGreatDoorRepQ
namespace Go.Proofs.YtlkbfehdiopkbaaGreatDoor.lawReplyBack
open Go.ChangeShapes Go.WideShapes Go.ChangeAt Go.RowKit
open Go.ChangeMaps (open_string shut_string)

set_option maxRecDepth 100000 in
set_option linter.unusedSimpArgs false in
theorem contract (H : Type) (enc : TypeId × Value → H) (W : World) (args : Array Value) (ds gs : List (DataW H)) (before : List MemPlace)
    (hval : ∀ (j : Nat) t v, Tryz.f10.params[j]? = some t → args[j]? = some v → Value.okWide Tryz.prog W .any 0 t v)
    (hW : DataW.Whole enc Tryz.prog Tryz.f10.params.toList Rows.replyBackSpec.vars false W args.toList ds gs before) (hcond : Rows.uptoSmall H (ds ++ gs) = true) (hE : Env W) :
    Calls Tryz.prog 10 args W fun e W' => ∃ v, e = .returned v ∧ Rows.replyBackSpec.post enc Tryz.prog Tryz.f10 false true false false W args v W' := by
  have hW' := hW
  have hlt := hW.lt
  obtain ⟨p, q, hA0, hV, rfl, hfz, hnd⟩ := hW
  have hA : DataW.TrodAll enc Tryz.prog W 0 (fun _ => true) true Tryz.f10.params.toList args.toList ds p := hA0
  rw [Tryz.params10] at hA hval
  obtain ⟨v0, vs0, d0, ds0, p0, q0, hargs, rfl, rfl, h0', r0⟩ := trodAll_cons hA
  obtain ⟨v1, vs1, d1, ds1, p1, q1, rfl, rfl, rfl, h1', r1⟩ := trodAll_cons r0
  obtain ⟨v2, vs2, d2, ds2, p2, q2, rfl, rfl, rfl, h2', r2⟩ := trodAll_cons r1
  obtain ⟨rfl, rfl, rfl⟩ := trodAll_nil r2
  obtain rfl : args = #[v0, v1, v2] := by cases args; simp_all
  obtain ⟨rfl, rfl⟩ := trodVars_none hV
  obtain ⟨a0, w0, rfl, h0, m0, lo0, hi0⟩ := resp_of_trod (hval 0 49 v0 rfl rfl) h0'
  obtain ⟨⟨⟨s1⟩⟩, rfl, rfl, rfl, l1⟩ := open_string Tryz.underlying9 (hval 1 9 v1 rfl rfl) h1'
  replace l1 : s1.length ≤ maxLen := l1
  obtain ⟨n2, rfl, rfl, rfl, wf2⟩ := open_int Tryz.underlying22 (hval 2 22 v2 rfl rfl) h2'
  obtain ⟨c2, rfl, cl2⟩ := wf_u16 wf2
  clear hA0
  simp only [List.append_nil, List.nil_append, List.cons_append, Rows.uptoSmall, decide_eq_true_eq, Rows.uptoBulkAll, Rows.uptoBulk] at hcond
  refine (law_back a0 w0 s1 c2 W h0 (by have := flat_le a0.hdrs; unfold respM at m0; omega) (by omega) cl2 hE).mono fun e W' ⟨he, hbw⟩ => ?_
  subst he
  exact ⟨_, rfl, _, _, _, [], _, [], hW', trodAll_cons_mk (shut_bool Tryz.underlying4 _) trodAll_mk0,
    trodAll_cons_mk (trod_behind laidOut read_resp row_resp h0' hbw fun x hx => hlt x (by simp [hx])) (trodAll_cons_mk (trod_behind laidOut read_str row_str h1' hbw fun x hx => by cases hx) (trodAll_cons_mk (trod_behind laidOut read_u16 row_u16 h2' hbw fun x hx => by cases hx) trodAll_mk0)),
    rfl, hbw.frame _, fun h => by cases h⟩

set_option maxRecDepth 100000 in
theorem laid_met (os : Os) : laidMet Tryz.prog Rows.replyBackUptoRow.laid ((laidWorld os).forCall (fun _ _ => 0) ⟨#[], #[.agg #[.int .i64 0, .slice none 0 0, .string ⟨#[]⟩, .bool false, .bool false], .string ⟨#[]⟩, .int .u16 0], []⟩).memory :=
  laidWorld_met os _
set_option maxRecDepth 100000 in
theorem reads (os : Os) {H : Type} (enc : TypeId × Value → H) : ∃ places, DataW.whole enc Tryz.prog ((laidWorld os).forCall (fun _ _ => 0) ⟨#[], #[.agg #[.int .i64 0, .slice none 0 0, .string ⟨#[]⟩, .bool false, .bool false], .string ⟨#[]⟩, .int .u16 0], []⟩).memory Tryz.f10.params.toList Rows.replyBackSpec.vars false #[Value.agg #[.int .i64 0, .slice none 0 0, .string ⟨#[]⟩, .bool false, .bool false], .string ⟨#[]⟩, .int .u16 0].toList 8 = some ([.agg [.lit (.int .i64 0), .nil, .lit (.string []), .lit (.bool false), .lit (.bool false)], .lit (.string []), .lit (.int .u16 0)], [], places) :=
  ⟨[], by kernel_rfl⟩

set_option maxRecDepth 100000 in
theorem lifted (os : Os) (started : os.Started) (H : Type) (enc : TypeId × Value → H) (F : Stop.Interp) :
    ReturnsInHanded {} Tryz.checked os 10 .any ((Rows.OpenSpec.upto Rows.replyBackSpec).preRow enc Tryz.prog Tryz.f10 Rows.replyBackUptoRow.domain false Rows.replyBackUptoRow.laid) (((Rows.OpenSpec.upto Rows.replyBackSpec).at F).post enc Tryz.prog Tryz.f10 false true false false) := by
  obtain ⟨places, hx⟩ := reads os enc
  refine returnsInHanded_of_row (C := Tryz.checked) (s := Rows.OpenSpec.upto Rows.replyBackSpec) own started (by kernel_rfl) Tryz.func10
    (witness_sh (enc := enc) (C := Tryz.checked) (laidWorld os) #[.agg #[.int .i64 0, .slice none 0 0, .string ⟨#[]⟩, .bool false, .bool false], .string ⟨#[]⟩, .int .u16 0] (laidWorld_os os) (World.shaped_of_ZipB (by kernel_rfl) (by kernel_rfl)) (by kernel_rfl)
      (OpenSpec.preRow_of_cond 8 hx (by kernel_rfl) (fun k hk => by cases hk; kernel_rfl) (by kernel_rfl) (laid_met os))) ?_
  intro W base args ds gs before hval hW _ hcond _ hL hsh _
  have hval0 : ∀ (j : Nat) t v, Tryz.f10.params[j]? = some t → args[j]? = some v → Value.okWide Tryz.prog W .any 0 t v := fun j t v ht hv => Value.okWide_any_base (hval j t v ht hv)
  exact contract H enc W args ds gs before hval0 hW (hcond _ rfl) (env_of hL hsh)

set_option maxRecDepth 100000 in
theorem said : Rows.ReplyBackUptoSaid :=
  OpenClaim.holds_of_cond 10 Tryz.f10 rfl rfl rfl rfl rfl rfl rfl ⟨rfl, rfl, rfl, rfl, rfl⟩ rfl rfl rfl rfl rfl (by kernel_rfl) Tryz.func10 (by kernel_rfl)
    (of_decide_eq_true (by kernel_rfl)) (by unfold Func.isWrapper; first | (rw [if_pos (by decide +kernel)]; kernel_rfl) | (rw [if_neg (by decide +kernel)]; exact ⟨rfl, rfl⟩))
    (fun os started H enc _ F => by rw [OpenClaim.pre_eq_preRow]; exact lifted os started H enc F)

/-- No parameter wants a stand-in; the program's own looks are off: what the card asks. -/
theorem plain (f : FuncId) (fn : Func) (hf : Tryz.pinned.checked.prog.funcNamed "docket/docketlaw12.ReplyBack" = some f) (hfn : Tryz.pinned.checked.prog.funcs[f]? = some fn) :
    true = Tryz.pinned.checked.prog.looks [] ∧ ∀ (j : Nat) t, fn.params[j]? = some t → Tryz.pinned.checked.prog.wantsStandIn t = false := by
  obtain rfl : f = 10 := Option.some.inj ((show Tryz.prog.funcNamed "docket/docketlaw12.ReplyBack" = some 10 by kernel_rfl).symm.trans hf) |>.symm
  obtain rfl : fn = Tryz.f10 := (Option.some.inj (Tryz.func10.symm.trans hfn)).symm
  refine ⟨by kernel_rfl, fun j t ht => ?_⟩
  rw [Tryz.params10] at ht
  have hm := Array.mem_of_getElem? ht
  have ht' : t = 49 ∨ t = 9 ∨ t = 22 := by have h := hm; simp at h; omega
  rcases ht' with rfl | rfl | rfl
  · exact (show Tryz.prog.wantsStandIn 49 = false by kernel_rfl)
  · exact (show Tryz.prog.wantsStandIn 9 = false by kernel_rfl)
  · exact (show Tryz.prog.wantsStandIn 22 = false by kernel_rfl)

/-- THE CARD. -/
theorem card : Rows.ReplyBackUptoCardSaid :=
  Claim7.holds_tied_plain_at .later [] _ _ _ _ said (fun _ h => by cases h) (by kernel_rfl) (fun _ h => by cases h) replyBackUpto_row_tie rfl ⟨rfl, rfl⟩ (by kernel_rfl) rfl plain (by kernel_rfl)
end Go.Proofs.YtlkbfehdiopkbaaGreatDoor.lawReplyBack

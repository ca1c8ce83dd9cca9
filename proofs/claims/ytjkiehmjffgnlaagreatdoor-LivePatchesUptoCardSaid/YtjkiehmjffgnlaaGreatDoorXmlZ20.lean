import Derived.Test.YtjkiehmjffgnlaaGreatDoorXmlZ6
import Derived.Test.YtjkiehmjffgnlaaGreatDoorXmlZ18
import Derived.Test.YtjkiehmjffgnlaaGreatDoorXmlZ19
namespace Go.Proofs.YtjkiehmjffgnlaaGreatDoor
set_option linter.unusedVariables false
set_option linter.unusedSimpArgs false

theorem esc_len6 {f : UInt8 → List UInt8} (hf : ∀ c, (f c).length ≤ 6) : ∀ v : List UInt8, (v.flatMap f).length ≤ 6 * v.length
  | [] => Nat.le_refl _
  | c :: v => by
    have := esc_len6 hf v
    have := hf c
    rw [List.flatMap_cons, List.length_append, List.length_cons]
    omega
theorem escV_le (c : UInt8) : (escV c).length ≤ 6 := by
  unfold escV
  repeat' split
  all_goals simp
theorem escT_le (c : UInt8) : (escT c).length ≤ 6 := by
  unfold escT
  repeat' split
  all_goals simp
def nestT : Nat → NodeT
  | 0 => .mk [] [] [120] [] []
  | k + 1 => .mk [] [] [120] [] [nestT k]
def repS (n : Nat) (s : List UInt8) : List UInt8 := (List.replicate n s).flatten
theorem repS_succ (n : Nat) (s : List UInt8) : repS (n + 1) s = s ++ repS n s := by
  unfold repS
  rw [List.replicate_succ, List.flatten_cons]
theorem repS_snoc (n : Nat) (s : List UInt8) : repS (n + 1) s = repS n s ++ s := by
  unfold repS
  rw [List.replicate_succ', List.flatten_append]
  simp
theorem repS_len (n : Nat) (s : List UInt8) : (repS n s).length = n * s.length := by
  induction n with
  | zero => simp [repS]
  | succ n ih => rw [repS_succ, List.length_append, ih, Nat.succ_mul]; omega
def oX : List UInt8 := [60, 120, 62]
def cX : List UInt8 := [60, 47, 120, 62]
def yX : List UInt8 := [60, 121, 47, 62]
/-- an element without attributes, whose content is told. -/
theorem elem_bare {n r r3 : List UInt8} {ks : List NodeT} {sc : Scope} (hn : nameOk n = true) (hsc : findX sc [] = some []) (hc : contX sc [] r = some (ks, 60 :: 47 :: (n ++ 62 :: r3))) : elemX sc (60 :: (n ++ 62 :: r)) = some (.mk [] [] n [] ks, r3) := by
  rw [elemX_eq, show eatX [60] (60 :: (n ++ 62 :: r)) = some ((), n ++ 62 :: r) from eatX_app [60] _, thenX_mk, qname_read hn ⟨62, _, rfl, by decide, by decide⟩, thenX_mk]
  have ha : attrsX ((62 :: r).length + 1) [] [] sc (62 :: r) = some (([], sc), 62 :: r) := by
    rw [attr_step, xwhite_no (by decide), if_neg (fun h => absurd h.1 (Nat.lt_irrefl _))]
  have hno : eatX [47, 62] (62 :: r) = none := by
    unfold eatX
    rw [if_neg]
    simp [List.isPrefixOf]
  rw [ha, thenX_mk]
  simp only
  rw [hsc]
  simp only
  rw [hno]
  simp only
  rw [show eatX [62] (62 :: r) = some ((), r) from eatX_app [62] _, thenX_mk, hc, thenX_mk,
    show eatX [60, 47] (60 :: 47 :: (n ++ 62 :: r3)) = some ((), n ++ 62 :: r3) from eatX_app [60, 47] _, thenX_mk, word_take, eatX_app, thenX_mk, xwhite_no (by decide), show eatX [62] (62 :: r3) = some ((), r3) from eatX_app [62] _, thenX_mk]
theorem cont_end (sc : Scope) (ks : List NodeT) (r : List UInt8) : contX sc ks (60 :: 47 :: r) = some (ks, 60 :: 47 :: r) := by
  rw [contX_eq, if_pos (by simp [List.isPrefixOf])]
theorem cont_elem {sc : Scope} {ks : List NodeT} {s r : List UInt8} {n : NodeT} (h : elemX sc s = some (n, r)) : contX sc ks s = contX sc (ks ++ [n]) r := by
  obtain ⟨c, q, hq, hc⟩ := elemX_head h
  obtain ⟨t1, t2, t3, t4⟩ := (show plainH s from ⟨60, c :: q, hq, .inr ⟨c, q, rfl, hc⟩⟩).tests
  rw [contX_eq, if_neg (by rw [t1]; simp), if_neg t2, t3, t4]
  simp only
  rw [if_pos (by rw [hq]; rfl), h, thenX_mk]
theorem nest_read : ∀ (k : Nat) (r : List UInt8), elemX [] (repS (k + 1) oX ++ (repS (k + 1) cX ++ r)) = some (nestT k, r)
  | 0, r => elem_bare (n := [120]) (by decide) rfl (cont_end [] [] _)
  | k + 1, r => by
    have e : repS (k + 2) oX ++ (repS (k + 2) cX ++ r) = 60 :: ([120] ++ 62 :: (repS (k + 1) oX ++ (repS (k + 1) cX ++ (60 :: 47 :: ([120] ++ 62 :: r))))) := by
      rw [repS_succ (k + 1) oX, repS_snoc (k + 1) cX]
      simp [oX, cX]
    rw [e]
    refine elem_bare (by decide) rfl ?_
    rw [cont_elem (nest_read k _), cont_end]
    rfl
theorem y_read (r : List UInt8) : elemX [] (yX ++ r) = some (.mk [] [] [121] [] [], r) := by
  have := elem_read (.mk [] [] [121] [] []) 0 [] [] r (by decide +kernel) (by decide) rfl
  exact this
def wideT (m : Nat) : NodeT := .mk [] [] [120] [] (List.replicate m (.mk [] [] [121] [] []))
theorem ys_read : ∀ (m : Nat) (acc : List NodeT) (r : List UInt8), contX [] acc (repS m yX ++ 60 :: 47 :: r) = some (acc ++ List.replicate m (.mk [] [] [121] [] []), 60 :: 47 :: r)
  | 0, acc, r => by
    rw [show repS 0 yX ++ 60 :: 47 :: r = 60 :: 47 :: r from rfl, cont_end, List.replicate_zero, List.append_nil]
  | m + 1, acc, r => by
    rw [repS_succ, List.append_assoc, cont_elem (y_read _), ys_read m]
    rw [List.replicate_succ, List.append_assoc]
    rfl
theorem wide_read (m : Nat) : elemX [] (60 :: ([120] ++ 62 :: (repS m yX ++ 60 :: 47 :: ([120] ++ 62 :: [])))) = some (wideT m, []) := elem_bare (by decide) rfl (ys_read m [] _)
theorem parse_elem {s : List UInt8} {n : NodeT} (hl : s.length ≤ 65536) (hL : lettersX s = true) (h : elemX [] s = some (n, [])) : parseX s = if goodT n then .ok n else .error 31 := by
  obtain ⟨c, q, hq, hc⟩ := elemX_head h
  obtain ⟨-, -, -, -, -, c6, -⟩ := fir_no hc
  have hd : declared s = false := by
    unfold declared
    have : [60, 63, 120, 109, 108].isPrefixOf s = false := by
      rw [hq]
      simp [List.isPrefixOf, Ne.symm c6]
    rw [this]
    rfl
  have hp : plainH s := ⟨60, c :: q, hq, .inr ⟨c, q, rfl, hc⟩⟩
  rw [parseX_eq, if_neg (by omega), hL, if_neg (by simp), hd, if_neg (by simp), core_mk (miscS_plain hp (by rw [hq]; exact xwhite_no (by decide) _)) h rfl]
  rfl
theorem letters_rep {s : List UInt8} (h : lettersX s = true) : ∀ n, lettersX (repS n s) = true
  | 0 => rfl
  | n + 1 => by rw [repS_succ]; exact letters_and h (letters_rep h n)
theorem good_nest : ∀ (k d : Nat), goodN d (nestT k) = decide (d + k < 16)
  | 0, d => by
    unfold nestT goodN
    rw [if_neg (by decide), show shortX [120] = true by decide +kernel]
    unfold goodL
    rw [Bool.eq_iff_iff]
    simp [attrsOk, noTwo, letters_nil]
  | k + 1, d => by
    unfold nestT goodN
    rw [if_neg (by decide), show shortX [120] = true by decide +kernel]
    unfold goodL goodL
    rw [good_nest k (d + 1)]
    rw [Bool.eq_iff_iff]
    simp [attrsOk, noTwo, letters_nil]
    omega
theorem count_nest : ∀ k, countN (nestT k) = k + 1
  | 0 => by unfold nestT countN countL; rfl
  | k + 1 => by
    unfold nestT countN countL countL
    rw [count_nest k]
    omega
theorem name_nest (k : Nat) : (nestT k).name = [120] := by cases k <;> rfl
theorem parse_nest (k : Nat) (hk : k ≤ 40) : parseX (repS (k + 1) oX ++ repS (k + 1) cX) = if k < 16 then .ok (nestT k) else .error 31 := by
  have h := nest_read k []
  rw [List.append_nil] at h
  rw [parse_elem (by rw [List.length_append, repS_len, repS_len]; simp [oX, cX]; omega) (letters_and (letters_rep (by decide +kernel) _) (letters_rep (by decide +kernel) _)) h]
  have : goodT (nestT k) = decide (k < 16) := by
    unfold goodT
    rw [good_nest, count_nest, name_nest]
    rw [Bool.eq_iff_iff]
    simp
    omega
  rw [this]
  simp
theorem good_rep : ∀ (m d : Nat), d < 16 → goodL d (List.replicate m (.mk [] [] [121] [] [])) = true
  | 0, d, _ => by rw [List.replicate_zero]; unfold goodL; rfl
  | m + 1, d, hd => by
    rw [List.replicate_succ]
    unfold goodL
    rw [good_rep m d hd]
    unfold goodN
    rw [if_neg (by decide), show shortX [121] = true by decide +kernel]
    unfold goodL
    simp [attrsOk, noTwo, letters_nil, hd]
theorem noTwo_rep : ∀ m : Nat, noTwo (List.replicate m (.mk [] [] [121] [] [])) = true
  | 0 => rfl
  | 1 => rfl
  | m + 2 => by
    have := noTwo_rep (m + 1)
    rw [List.replicate_succ] at this
    rw [List.replicate_succ, List.replicate_succ]
    unfold noTwo
    rw [this]
    simp [NodeT.name]
theorem countL_cons (k : NodeT) (r : List NodeT) : countL (k :: r) = countN k + countL r := by rw [countL]
theorem count_rep : ∀ m : Nat, countL (List.replicate m (.mk [] [] [121] [] [])) = m
  | 0 => by rw [List.replicate_zero]; unfold countL; rfl
  | m + 1 => by
    rw [List.replicate_succ, countL_cons, count_rep m]
    unfold countN countL
    omega
def wideS (m : Nat) : List UInt8 := oX ++ (repS m yX ++ cX)
theorem parse_wide (m : Nat) (hm : m ≤ 10000) : parseX (wideS m) = if m < 4096 then .ok (wideT m) else .error 31 := by
  have e : wideS m = 60 :: ([120] ++ 62 :: (repS m yX ++ 60 :: 47 :: ([120] ++ 62 :: []))) := rfl
  have h := wide_read m
  rw [← e] at h
  have hl : (wideS m).length ≤ 65536 := by unfold wideS; simp only [List.length_append, repS_len, oX, cX, yX, List.length_cons, List.length_nil]; omega
  have hL : lettersX (wideS m) = true := by
    unfold wideS
    exact letters_and (by decide +kernel) (letters_and (letters_rep (by decide +kernel) _) (by decide +kernel))
  rw [parse_elem hl hL h]
  have : goodT (wideT m) = decide (m < 4096) := by
    unfold goodT wideT goodN countN
    rw [if_neg (by decide), show shortX [120] = true by decide +kernel, good_rep m 1 (by decide), noTwo_rep, count_rep]
    rw [Bool.eq_iff_iff]
    simp [attrsOk, letters_nil, NodeT.name]
    omega
  rw [this]
  simp
end Go.Proofs.YtjkiehmjffgnlaaGreatDoor
namespace Go.Proofs.YtjkiehmjffgnlaaGreatDoor
set_option linter.unusedVariables false
set_option linter.unusedSimpArgs false
open Go.RowKit

structure FS (B b bt bv : Nat) (r : Option Nat) (l : List UInt8) (w : World) : Prop where
  bld : BldR B b r l w
  t : BxP (offX b bv r) w bt psT
  v : BxP (offX b bt r) w bv psV
  lt : B ≤ bt ∧ B ≤ bv
theorem Moves.trans {P Q R : Nat → Prop} {w w1 w2 : World} (h1 : Moves P Q w w1) (h2 : Moves Q R w1 w2) : Moves P R w w2 :=
  ⟨Nat.le_trans h1.size h2.size, fun k hk hlt => by
    obtain ⟨a, e⟩ := h1.block k hk hlt
    obtain ⟨a2, e2⟩ := h2.block k a (Nat.lt_of_lt_of_le hlt h1.size)
    exact ⟨a2, e2.trans e⟩⟩
def OffF (b bt bv : Nat) (r : Option Nat) (k : Nat) : Prop := k ≠ b ∧ k ≠ bt ∧ k ≠ bv ∧ some k ≠ r
structure FFr (b bt bv : Nat) (r r' : Option Nat) (w w' : World) : Prop where
  os : w'.os = w.os
  tape : w'.tape = w.tape
  output : w'.output = w.output
  mv : Moves (OffF b bt bv r) (OffF b bt bv r') w w'
theorem FFr.refl (b bt bv : Nat) (r : Option Nat) (w : World) : FFr b bt bv r r w w := ⟨rfl, rfl, rfl, Moves.same w fun _ h _ => h⟩
theorem FFr.trans {b bt bv : Nat} {r r1 r2 : Option Nat} {w w1 w2 : World} (h1 : FFr b bt bv r r1 w w1) (h2 : FFr b bt bv r1 r2 w1 w2) : FFr b bt bv r r2 w w2 := ⟨h2.os.trans h1.os, h2.tape.trans h1.tape, h2.output.trans h1.output, h1.mv.trans h2.mv⟩
theorem FFr.below' {b bt bv : Nat} {r : Option Nat} {w w' : World} (hb : Below w.heap.size w w') : FFr b bt bv r r w w' := ⟨hb.os, hb.tape, hb.output, Moves.below hb fun _ h _ => h⟩
theorem row_off {r r' : Option Nat} {w : World} (h : r' = r ∨ ∃ k, r' = some k ∧ w.heap.size ≤ k) {k : Nat} (hk : some k ≠ r) (hlt : k < w.heap.size) : some k ≠ r' := by
  rcases h with h | ⟨j, hj, hs⟩
  · rw [h]; exact hk
  · rw [hj]; intro e; injection e with e; omega
section
variable {B b bt bv : Nat} {r : Option Nat} {l : List UInt8} {w w' : World}
theorem FS.size (h : FS B b bt bv r l w) : B ≤ w.heap.size := by have := h.bld.lt; omega
theorem FS.below (h : FS B b bt bv r l w) (hb : Below w.heap.size w w') : FS B b bt bv r l w' :=
  ⟨h.bld.kept hb.size (hb.block b h.bld.lt.2) (fun k hk => hb.block k (h.bld.row_lt k hk).2), h.t.move (Moves.below hb fun _ hk _ => hk), h.v.move (Moves.below hb fun _ hk _ => hk), h.lt⟩
theorem FS.new (h : FS B b bt bv r l w) {k : Nat} (hk : w.heap.size ≤ k) : OffF b bt bv r k :=
  ⟨by have := h.bld.lt; omega, by have := h.t.lt; omega, by have := h.v.lt; omega, fun e => by have := (h.bld.row_lt k e.symm).2; omega⟩
theorem FFr.below {r' : Option Nat} (h : FS B b bt bv r l w) (hf : FFr b bt bv r r' w w') : Below B w w' :=
  ⟨hf.os, hf.tape, hf.output, hf.mv.size, fun k hk => (hf.mv.block k ⟨by have := h.bld.lt; omega, by have := h.lt; omega, by have := h.lt; omega, fun e => by have := (h.bld.row_lt k e.symm).1; omega⟩ (by have := h.size; omega)).2⟩
theorem FS.wrote {r' : Option Nat} {l' : List UInt8} (h : FS B b bt bv r l w) (hb : BldR B b r' l' w') (hf : BFr b r r' w w') : FS B b bt bv r' l' w' ∧ FFr b bt bv r r' w w' :=
  ⟨⟨hb, h.t.move hf.movesX, h.v.move hf.movesX, h.lt⟩, hf.os, hf.tape, hf.output, hf.size, fun k hk hlt => ⟨⟨hk.1, hk.2.1, hk.2.2.1, row_off hf.row hk.2.2.2 hlt⟩, hf.block k hlt hk.1 hk.2.2.2⟩⟩
theorem FS.val (h : FS B b bt bv r l w) (hg : w.grownBy w' (some bv)) (hv : Bt (orNew (offX b bt r) w) w' bv psV) : FS B b bt bv r l w' ∧ FFr b bt bv r r w w' := by
  have hvo := h.v.1
  have hbl := h.bld.lt
  have hrl := h.bld.row_lt
  have htl := h.t.lt
  refine ⟨⟨h.bld.kept hg.size (hg.block b hbl.2 (by intro e; injection e with e; exact hvo.1.1 e.symm)) (fun k hk => hg.block k (hrl k hk).2 (by intro e; exact hvo.1.2 (e.symm.trans hk.symm))),
    h.t.move (Moves.grown hg fun k hk _ => ⟨hk, by intro e; injection e with e; exact hk.2 e⟩), hv.box.move (Moves.same w' fun k hk _ => hk.elim id fun hn => ⟨⟨by omega, fun e => by have := (hrl k e.symm).2; omega⟩, by omega⟩), h.lt⟩, ?_⟩
  exact ⟨hg.os, hg.tape, hg.output, hg.size, fun k hk hlt => ⟨hk, hg.block k hlt (by intro e; injection e with e; exact hk.2.2.1 e)⟩⟩
theorem FS.txt {r' : Option Nat} {l' : List UInt8} (h : FS B b bt bv r l w) (hb : BldR B b r' l' w') (ht : Bt (offX b bv r') w' bt psT) (hf : BFx b r r' bt w w') : FS B b bt bv r' l' w' ∧ FFr b bt bv r r' w w' := by
  have hto := h.t.1
  have hbl := h.bld.lt
  have hrl := h.bld.row_lt
  refine ⟨⟨hb, ht.box, h.v.move ⟨hf.size, fun k hk hlt => ⟨⟨⟨hk.1.1, fun e => ?_⟩, hk.2⟩, hf.block k hlt hk.1.1 hk.1.2 hk.2⟩⟩, h.lt⟩, hf.os, hf.tape, hf.output, hf.size, fun k hk hlt => ⟨⟨hk.1, hk.2.1, hk.2.2.1, row_off hf.row hk.2.2.2 hlt⟩, hf.block k hlt hk.1 hk.2.2.2 hk.2.1⟩⟩
  rcases hf.row with e1 | ⟨j, e1, hj⟩
  · exact hk.1.2 (e.trans e1)
  · rw [e1] at e
    injection e with e
    omega
end
def FoP (B b bt bv : Nat) (r : Option Nat) (l : List UInt8) (w : World) (e : Ending) (w' : World) : Prop := e = .returned (.tuple #[]) ∧ ∃ r', FS B b bt bv r' l w' ∧ FFr b bt bv r r' w w'
theorem fo_write (B b bt bv : Nat) (r : Option Nat) (l s : List UInt8) (w : World) (h : FS B b bt bv r l w) (hlen : l.length + s.length ≤ 140737488355328) :
    Calls Tryz.prog 73 #[.pointer (some ⟨b, 0, none⟩), .string ⟨s.toArray⟩] w (fun e w' => e = .returned (.tuple #[.int .i64 s.length, .nilIface]) ∧ ∃ r', FS B b bt bv r' (l ++ s) w' ∧ FFr b bt bv r r' w w') :=
  (xwriteS B b r l s w h.bld hlen).mono fun e w' ⟨he, r', hb, hf⟩ => ⟨he, r', h.wrote hb hf⟩
theorem fo_val (B b bt bv : Nat) (r : Option Nat) (l s : List UInt8) (w : World) (h : FS B b bt bv r l w) (hs : s.length ≤ 1000000000) :
    Calls Tryz.prog 94 #[.pointer (some ⟨bv, 0, none⟩), .string ⟨s.toArray⟩] w (fun e w' => e = .returned (.string ⟨(s.flatMap escV).toArray⟩) ∧ FS B b bt bv r l w' ∧ FFr b bt bv r r w w') :=
  (xrepl_any' _ psV wideV_P bv s w h.v hs).mono fun e w' ⟨he, hg, hb⟩ => ⟨by rw [he, repP_V], h.val hg hb⟩
theorem fo_txt (B b bt bv : Nat) (r : Option Nat) (l s : List UInt8) (w : World) (h : FS B b bt bv r l w) (hs : s.length ≤ 1000000000) (hl : l.length ≤ 100000000000000) :
    Calls Tryz.prog 93 #[.pointer (some ⟨bt, 0, none⟩), .iface 115 (.pointer (some ⟨b, 0, none⟩)), .string ⟨s.toArray⟩] w (fun e w' => (∃ n er, e = .returned (.tuple #[n, er])) ∧ ∃ r', FS B b bt bv r' (l ++ s.flatMap escT) w' ∧ FFr b bt bv r r' w w') :=
  (xreplW_any psT wideT_P B b bv r l s bt w h.bld h.t h.v.lt hs hl).mono fun e w' ⟨he, r', hb, ht, hf⟩ => ⟨he, r', by rw [← repP_T]; exact h.txt hb ht hf⟩
theorem FS.drew {B b bt bv : Nat} {r : Option Nat} {l : List UInt8} {w : World} (h : FS B b bt bv r l w) : FS B b bt bv r l w.drew := h.below (below_draws (Below.refl _ _) 1)
theorem FFr.ofDrew {b bt bv : Nat} {r r' : Option Nat} {w w' : World} (h : FFr b bt bv r r' w.drew w') : FFr b bt bv r r' w w' := ⟨h.os, h.tape, h.output, h.mv.size, h.mv.block⟩
theorem headF_eq (s n : List UInt8) (as_ : List AttrT) (up : List UInt8) : headF s n as_ up = (60 :: n) ++ ((if s = up then [] else [32, 120, 109, 108, 110, 115, 61, 34] ++ s.flatMap escV ++ [34]) ++ as_.flatMap attrF) := by
  unfold headF
  split <;> simp
theorem form_text (up t s : List UInt8) (as_ : List AttrT) (ks : List NodeT) : formN up (.mk t s [] as_ ks) = t.flatMap escT := by rw [formN, if_pos rfl]
theorem form_elem {n : List UInt8} (hn : n ≠ []) (up t s : List UInt8) (as_ : List AttrT) (ks : List NodeT) : formN up (.mk t s n as_ ks) = headF s n as_ up ++ (if ks.isEmpty then [47, 62] else 62 :: (formL s ks ++ ([60, 47] ++ (n ++ [62])))) := by rw [formN, if_neg hn]
theorem formL_app (up : List UInt8) : ∀ (a b : List NodeT), formL up (a ++ b) = formL up a ++ formL up b
  | [], b => by rw [formL]; rfl
  | x :: a, b => by rw [List.cons_append, formL, formL, formL_app up a b, List.append_assoc]
theorem formL_next {up : List UInt8} {ks : List NodeT} {x : NodeT} {k : Nat} (h : ks[k]? = some x) : formL up (ks.take (k + 1)) = formL up (ks.take k) ++ formN up x := by
  rw [List.take_add_one, h, formL_app]
  congr 1
  show formL up [x] = _
  rw [formL, formL, List.append_nil]
theorem formL_part (up : List UInt8) (ks : List NodeT) (k : Nat) : (formL up (ks.take k)).length ≤ (formL up ks).length := by
  conv => rhs; rw [← List.take_append_drop k ks]
  rw [formL_app, List.length_append]
  omega
theorem flat_next {ats : List AttrT} {a : AttrT} {k : Nat} (h : ats[k]? = some a) : (ats.take (k + 1)).flatMap attrF = (ats.take k).flatMap attrF ++ attrF a := by
  rw [List.take_add_one, h, List.flatMap_append]
  congr 1
  simp
theorem flat_part (ats : List AttrT) (k : Nat) : ((ats.take k).flatMap attrF).length ≤ (ats.flatMap attrF).length := by
  conv => rhs; rw [← List.take_append_drop k ats]
  rw [List.flatMap_append, List.length_append]
  omega
end Go.Proofs.YtjkiehmjffgnlaaGreatDoor

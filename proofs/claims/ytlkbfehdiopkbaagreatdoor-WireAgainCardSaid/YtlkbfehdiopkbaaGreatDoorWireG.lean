/-
  The walk of wire's chunks. Conditions: the reader and the request lie in blocks of their own; the bytes are fewer than a hundred million.
-/
import Derived.Test.YtlkbfehdiopkbaaGreatDoorWireF
import Derived.Lib.OthersKept
namespace Go.Proofs.YtlkbfehdiopkbaaGreatDoor
set_option linter.unusedVariables false
set_option linter.unusedSimpArgs false
open Go.RowKit

theorem bldAt_grown {T e : TypeId} {B b r : Nat} {p : Value} {bs : List Value} {w w' : World} (h : Lib.BuilderAt T e B b p bs w) (hg : w.grownBy w' (some r)) (hr : r < B) : Lib.BuilderAt T e B b p bs w' := by
  have hlt := h.lt
  obtain ⟨h1, v, h2, h3, h4⟩ := h
  refine ⟨h1, v, (hg.block b hlt (fun e => by injection e with e; omega)).trans h2, World.ownsRow.kept (row := some r) h3 hg ?_, h4⟩
  cases hv : v.ownBlock with
  | none => exact .inl rfl
  | some k =>
    have := (World.ownsRow.lt h3 k hv).1
    exact .inr (fun e => by injection e with e; omega)
theorem Bld.grown {B b r : Nat} {l : List UInt8} {w w' : World} (h : Bld B b l w) (hg : w.grownBy w' (some r)) (hr : r < B) : Bld B b l w' := by
  rcases h with h | h
  · exact .inl (bldAt_grown h hg hr)
  · exact .inr (bldAt_grown h hg hr)
theorem bldAt_iter {T e : TypeId} {B b k i j : Nat} {p : Value} {bs : List Value} {w : World} {s : ByteArray} (h : Lib.BuilderAt T e B b p bs w) (hk : w.heap[k]? = some (.stringIter s i)) : Lib.BuilderAt T e B b p bs (w.iterAt k s j) := by
  obtain ⟨h1, v, h2, h3, h4⟩ := h
  have hg : w.grownBy (w.iterAt k s j) (some k) := ⟨rfl, rfl, rfl, by rw [Lib.iterAt_size]; exact Nat.le_refl _, fun x _ hx => Lib.iterAt_other w k x s j (fun e => hx (by rw [e]))⟩
  have hbk : b ≠ k := fun e => by rw [e, hk] at h2; cases h2
  refine ⟨h1, v, (Lib.iterAt_other w k b s j hbk).trans h2, World.ownsRow.kept (row := some k) h3 hg ?_, h4⟩
  rcases h3.2 with ⟨hv, _⟩ | ⟨g, cap, cur, hv, _, hgh, _⟩
  · exact .inl (by rw [hv]; rfl)
  · refine .inr (fun e => ?_)
    rw [hv] at e
    injection e with e
    have e' : g = k := e
    rw [e', hk] at hgh
    cases hgh
theorem Bld.iter {B b k i j : Nat} {l : List UInt8} {w : World} {s : ByteArray} (h : Bld B b l w) (hk : w.heap[k]? = some (.stringIter s i)) : Bld B b l (w.iterAt k s j) := by
  rcases h with h | h
  · exact .inl (bldAt_iter h hk)
  · exact .inr (bldAt_iter h hk)
/-- where a text's iterator stands. -/
def iterPos (w : World) (k : Nat) : Nat := match w.heap[k]? with
  | some (.stringIter _ p) => p
  | _ => 0
theorem iterPos_at {w : World} {k p : Nat} {s : ByteArray} (h : w.heap[k]? = some (.stringIter s p)) : iterPos w k = p := by
  unfold iterPos
  rw [h]
theorem builderLen_any (B b : Nat) (l : List UInt8) (w : World) (h : Bld B b l w) : Calls Tryz.prog 73 #[.pointer (some ⟨b, 0, none⟩)] w (Same0 (.int .i64 l.length) w) := by
  refine (Tryz.Builder_Len B b (Lib.byteCells l) w h).mono ?_
  rintro e w' ⟨rfl, rfl⟩
  rw [Lib.byteCells_length]
  exact ⟨rfl, rfl⟩
theorem Two.grow {b q : Nat} {w w' w'' : World} {r : Nat} (h : Two b q w w') (hg : w'.grownBy w'' (some r)) (hr : w.heap.size ≤ r ∨ r = b ∨ r = b) : Two b q w w'' :=
  ⟨hg.os.trans h.os, hg.tape.trans h.tape, hg.output.trans h.output, Nat.le_trans h.size hg.size, fun k hk h1 h2 => (hg.block k (Nat.lt_of_lt_of_le hk h.size) (fun e => by injection e with e; omega)).trans (h.block k hk h1 h2), fun hne xs t hx => by
    obtain ⟨ys, hy, e⟩ := h.row hne xs t hx
    have h1 := (Array.getElem?_eq_some_iff.1 hx).1
    exact ⟨ys, (hg.block q (Nat.lt_of_lt_of_le h1 h.size) (fun e => by injection e with e; omega)).trans hy, e⟩⟩
theorem size_lt {l : List UInt8} {n : Nat} (h : sizeS l = some n) : n < 4294967296 := by
  obtain ⟨t, h1, h2, h3⟩ := tw_split hexC l
  have hd : l.drop (l.takeWhile hexC).length = t := by
    generalize l.takeWhile hexC = p at *
    rw [h1, List.drop_left]
  rw [sizeS_eq rfl hd] at h
  have hb := hexN_lt _ h2
  generalize l.takeWhile hexC = p at *
  by_cases hz : p = [] ∨ 8 < p.length
  · rw [if_pos hz] at h; cases h
  · rw [if_neg hz] at h
    have hp : 16 ^ p.length ≤ 16 ^ 8 := Nat.pow_le_pow_right (by omega) (by omega)
    have hn : n = hexN p := by
      cases t with
      | nil => exact (Option.some.inj h).symm
      | cons c q =>
        rw [sizeT_cons] at h
        split at h
        · cases h
        · exact (Option.some.inj h).symm
    rw [hn]
    omega
/-- the line end behind a chunk, from place i on. -/
def crlfS : Nat → List UInt8 → Rd1 Unit
  | 0, s => thenS (oneS 13 s) fun _ r => oneS 10 r
  | 1, s => oneS 10 s
  | _, s => .ok ((), s)
theorem crlf0 (s : List UInt8) : crlfS 0 s = thenS (oneS 13 s) fun _ r => crlfS 1 r := rfl
theorem crlf1 (s : List UInt8) : crlfS 1 s = thenS (oneS 10 s) fun _ r => crlfS 2 r := by
  show oneS 10 s = _
  cases oneS 10 s with
  | error e => rfl
  | ok x => rfl
theorem enc13 : Utf8.encode 13 = ⟨#[13]⟩ := by rfl
theorem enc10 : Utf8.encode 10 = ⟨#[10]⟩ := by rfl
theorem one_take {c : UInt8} {s : List UInt8} : (takeS 1 s = .error (-1) ∧ oneS c s = .error (-1)) ∨ ∃ d r, takeS 1 s = .ok ([d], r) ∧ s.length = r.length + 1 ∧ oneS c s = if d = c then .ok ((), r) else .error 400 := by
  rcases s with _ | ⟨d, r⟩
  · exact .inl ⟨rfl, rfl⟩
  · refine .inr ⟨d, r, rfl, rfl, ?_⟩
    unfold oneS
    rw [show takeS 1 (d :: r) = .ok ([d], r) from rfl]
    show (if [d] = [c] then _ else _) = _
    by_cases h : d = c
    · subst h
      rw [if_pos rfl, if_pos rfl]
    · rw [if_neg (by simpa using h), if_neg h]
theorem chunks_err {f : Nat} {out s : List UInt8} {st : Int} (h : lineS 400 400 s = .error st) : chunksS (f + 1) out s = .error st := by
  rw [chunksS, h]; rfl
theorem chunks_size {f : Nat} {out s l r : List UInt8} (h : lineS 400 400 s = .ok (l, r)) (hz : sizeS l = none) : chunksS (f + 1) out s = .error 400 := by
  rw [chunksS, h]
  show (match sizeS l with
      | none => .error 400
      | some n => _ : Rd1 (List UInt8)) = _
  rw [hz]
theorem chunks_some {f : Nat} {out s l r : List UInt8} {n : Nat} (h : lineS 400 400 s = .ok (l, r)) (hz : sizeS l = some n) : chunksS (f + 1) out s = (if n = 0 then thenS (trailS 32 r) fun _ r => .ok (out, r)
        else if 8192 < out.length + n then .error 413
        else thenS (takeS n r) fun d r => thenS (crlfS 0 r) fun _ r => chunksS f (out ++ d) r) := by
  rw [chunksS, h]
  show (match sizeS l with
      | none => .error 400
      | some n => if n = 0 then thenS (trailS 32 r) fun _ r => .ok (out, r)
        else if 8192 < out.length + n then .error 413
        else thenS (takeS n r) fun d r => thenS (oneS 13 r) fun _ r => thenS (oneS 10 r) fun _ r => chunksS f (out ++ d) r : Rd1 (List UInt8)) = _
  rw [hz]
  show (if n = 0 then _ else if 8192 < out.length + n then _ else _) = _
  split
  · rfl
  · split
    · rfl
    · congr 1
      funext d r
      show thenS (oneS 13 r) (fun _ r => thenS (oneS 10 r) fun _ r => chunksS f (out ++ d) r) = thenS (thenS (oneS 13 r) fun _ r => oneS 10 r) fun _ r => chunksS f (out ++ d) r
      cases oneS 13 r with
      | error e => rfl
      | ok x => rfl
theorem trail_err {f : Nat} {s : List UInt8} {st : Int} (h : lineS 431 400 s = .error st) : trailS f s = .error st := by
  cases f <;> (rw [trailS, h]; rfl)
theorem trail_nil {f : Nat} {s r : List UInt8} (h : lineS 431 400 s = .ok ([], r)) : trailS f s = .ok ((), r) := by
  cases f <;> (rw [trailS, h]; rfl)
theorem trail_zero {s l r : List UInt8} (h : lineS 431 400 s = .ok (l, r)) (hl : l ≠ []) : trailS 0 s = .error 431 := by
  rw [trailS, h]
  exact if_neg hl
theorem trail_next {f : Nat} {s l r : List UInt8} (h : lineS 431 400 s = .ok (l, r)) (hl : l ≠ []) : trailS (f + 1) s = trailS f r := by
  rw [trailS, h]
  exact if_neg hl
/-- what chunks and body leave. -/
def BodyP (rb qb : Nat) (buf : List UInt8) (x : Rd1 (List UInt8)) (mv tv hv cv : Value) (w : World) (e : Ending) (w' : World) : Prop :=
  Two rb qb w w' ∧ match x with
    | .error st => e = .panicked (stopE st)
    | .ok (b, r) => e = .returned (.tuple #[]) ∧ WR w' rb buf r ∧ w'.heap[qb]? = some (.cells #[mv, tv, hv, .string ⟨b.toArray⟩, cv] 26 (0, 0))
theorem bodyP_no {rb qb : Nat} {buf : List UInt8} {x : Rd1 (List UInt8)} {mv tv hv cv : Value} {w w' : World} {st : Int} (h : x = .error st) (ht : Two rb qb w w') : BodyP rb qb buf x mv tv hv cv w (.panicked (stopE st)) w' := by
  subst h
  exact ⟨ht, rfl⟩
theorem bodyP_ok {rb qb : Nat} {buf : List UInt8} {x : Rd1 (List UInt8)} {mv tv hv cv : Value} {w w' : World} {b r : List UInt8} (h : x = .ok (b, r)) (ht : Two rb qb w w') (hr : WR w' rb buf r) (hq : w'.heap[qb]? = some (.cells #[mv, tv, hv, .string ⟨b.toArray⟩, cv] 26 (0, 0))) :
    BodyP rb qb buf x mv tv hv cv w (.returned (.tuple #[])) w' := by
  subst h
  exact ⟨ht, rfl, hr, hq⟩
/-- the state between the steps of chunks. -/
structure CS (w : World) (rb qb : Nat) (buf : List UInt8) (qo : Obj) (wx : World) (s out : List UInt8) : Prop where
  rd : WR wx rb buf s
  bld : Bld w.heap.size w.heap.size out wx
  q : wx.heap[qb]? = some qo
  two : Two rb qb w wx
section
variable {w : World} {rb qb : Nat} {buf : List UInt8} {qo : Obj} {w1 w2 : World} {s s' out : List UInt8}
theorem CS.read (h : CS w rb qb buf qo w1 s out) (hrb : rb < w.heap.size) (hqb : qb < w.heap.size) (hne : rb ≠ qb) (hg : w1.grownBy w2 (some rb)) (hw : WR w2 rb buf s') : CS w rb qb buf qo w2 s' out :=
  ⟨hw, h.bld.grown hg hrb, (hg.block qb (Nat.lt_of_lt_of_le hqb h.two.size) (fun e => by injection e with e; exact hne e.symm)).trans h.q, h.two.grow hg (.inr (.inl rfl))⟩
theorem CS.write (h : CS w rb qb buf qo w1 s out) (hrb : rb < w.heap.size) (hqb : qb < w.heap.size) (hb : Below w.heap.size w1 w2) {out' : List UInt8} (hbl : Bld w.heap.size w.heap.size out' w2) : CS w rb qb buf qo w2 s out' :=
  ⟨h.rd.low hb hrb, hbl, (hb.block qb hqb).trans h.q, h.two.low hb⟩
theorem CS.below (h : CS w rb qb buf qo w1 s out) (hqb : qb < w.heap.size) (hb : Below w1.heap.size w1 w2) : CS w rb qb buf qo w2 s out :=
  ⟨h.rd.below hb, h.bld.below hb, (hb.block qb (Nat.lt_of_lt_of_le hqb h.two.size)).trans h.q, h.two.trans (Two.below hb)⟩
theorem CS.iter (h : CS w rb qb buf qo w1 s out) (hrb : rb < w.heap.size) (hqb : qb < w.heap.size) {k i j : Nat} {t : ByteArray} (hk : w1.heap[k]? = some (.stringIter t i)) (hw : w.heap.size ≤ k) : CS w rb qb buf qo (w1.iterAt k t j) s out :=
  ⟨by
    obtain ⟨n, h⟩ := h.rd
    exact ⟨n, h.le, h.left, (Lib.iterAt_other w1 k rb t j (by omega)).trans h.cells⟩, h.bld.iter hk, (Lib.iterAt_other w1 k qb t j (by omega)).trans h.q,
    ⟨h.two.os, h.two.tape, h.two.output, by rw [Lib.iterAt_size]; exact h.two.size, fun x hx h1 h2 => (Lib.iterAt_other w1 k x t j (by omega)).trans (h.two.block x hx h1 h2), fun hne xs ty hx => by
      obtain ⟨ys, hy, e⟩ := h.two.row hne xs ty hx
      exact ⟨ys, (Lib.iterAt_other w1 k qb t j (by omega)).trans hy, e⟩⟩⟩
end
set_option maxHeartbeats 8000000 in
set_option maxRecDepth 100000 in
set_option linter.unusedSimpArgs false in
theorem chunks_any (rb qb : Nat) (buf s : List UInt8) (mv tv hv bv cv : Value) (w : World) (h : WR w rb buf s) (hq : w.heap[qb]? = some (.cells #[mv, tv, hv, bv, cv] 26 (0, 0))) (hne : rb ≠ qb) (hb : buf.length ≤ 9223372036854775807) :
    Calls Tryz.prog 61 #[.pointer (some ⟨rb, 0, none⟩), .pointer (some ⟨qb, 0, none⟩)] w (BodyP rb qb buf (chunksS 8193 [] s) mv tv hv cv w) := by
  have hql : qb < w.heap.size := (Array.getElem?_eq_some_iff.1 hq).1
  have hrl : rb < w.heap.size := h.lt
  have hba : Below w.heap.size w (w.alloc (.cells #[.pointer none, .slice none 0 0] 75)) := (Below.refl _ w).alloc (Nat.le_refl _) _
  have hC0 : CS w rb qb buf (.cells #[mv, tv, hv, bv, cv] 26 (0, 0)) (w.alloc (.cells #[.pointer none, .slice none 0 0] 75)) s [] :=
    ⟨h.below hba, Bld.fresh w, (hba.block qb hql).trans hq, Two.below hba⟩
  have HC0 := Lib.hid hC0
  have HLn := Lib.hid (fun w1 s (h : WR w1 rb buf s) long broken => line_any rb buf s w1 h hb long broken)
  have HTk := Lib.hid (fun w1 s n (h : WR w1 rb buf s) (hn : n ≤ 100000000) => take_any rb buf s w1 h hb n hn)
  have HF := Lib.hid fail_any
  have HSz := Lib.hid (fun l w (hl : l.length ≤ 1024) => wsize_any l w (by omega))
  have HRead := Lib.hid (fun (w1 w2 : World) (s s' out : List UInt8) (h : CS w rb qb buf (.cells #[mv, tv, hv, bv, cv] 26 (0, 0)) w1 s out) (hg : w1.grownBy w2 (some rb)) (hw : WR w2 rb buf s') => h.read hrl hql hne hg hw)
  have HWrite := Lib.hid (fun (w1 w2 : World) (s out out' : List UInt8) (h : CS w rb qb buf (.cells #[mv, tv, hv, bv, cv] 26 (0, 0)) w1 s out) (hb : Below w.heap.size w1 w2) (hbl : Bld w.heap.size w.heap.size out' w2) => h.write hrl hql hb hbl)
  have HBelow := Lib.hid (fun (w1 w2 : World) (s out : List UInt8) (h : CS w rb qb buf (.cells #[mv, tv, hv, bv, cv] 26 (0, 0)) w1 s out) (hb : Below w1.heap.size w1 w2) => h.below hql hb)
  have HWS := Lib.hid (fun w1 l s' (h : Bld w.heap.size w.heap.size l w1) (hl : l.length + s'.length ≤ 140737488355328) => writeString_any w.heap.size w.heap.size l s' w1 h hl)
  have HBL := Lib.hid (fun w1 l (h : Bld w.heap.size w.heap.size l w1) => builderLen_any w.heap.size w.heap.size l w1 h)
  have HBS := Lib.hid (fun w1 l (h : Bld w.heap.size w.heap.size l w1) => builderString_any w.heap.size w.heap.size l w1 h)
  obtain ⟨ANS, hANS⟩ : ∃ A, chunksS 8193 [] s = A := ⟨_, rfl⟩
  have HAN := Lib.hid hANS
  rw [hANS]
  obtain ⟨ob, hob⟩ : ∃ ob, ob = w.heap.size := ⟨_, rfl⟩
  clear h hq hC0 hANS hba
  go_enter Tryz.func61, Tryz.ntmps61
  go_wp2_with fail
  generalize (w.alloc (.cells #[.pointer none, .slice none 0 0] 75)) = wa at *
  go_loopw [5] (fun _ wr => ∃ (f : Nat) (s' out : List UInt8), CS w rb qb buf (.cells #[mv, tv, hv, bv, cv] 26 (0, 0)) wr s' out ∧ Hid (chunksS f out s' = ANS) ∧ 8193 ≤ f + out.length ∧ out.length ≤ 8192) (fun _ wr => wleft buf wr rb)
  case atStart => exact ⟨8193, s, [], HC0.out, HAN.out, by simp, by simp⟩
  case round =>
    obtain ⟨f, s', out, hcs, HK, hfo, ho⟩ := hrel
    have HC := Lib.hid hcs
    have HM := Lib.hid hcs.rd.left
    clear hcs HC0 HAN hob
    obtain ⟨f, rfl⟩ : ∃ m, f = m + 1 := ⟨f - 1, by omega⟩
    go_wp2_with fail
    refine (HLn.out wr s' HC.out.rd 400 400).mono ?_
    rintro e w1 ⟨hg1, hx⟩
    rcases hL : lineS 400 400 s' with st | ⟨l, r⟩
    · rw [hL] at hx
      obtain rfl := hx
      exact ⟨rfl, bodyP_no (by rw [← HK.out, chunks_err hL]) (HC.out.two.grow hg1 (.inr (.inl rfl)))⟩
    rw [hL] at hx
    obtain ⟨rfl, hwr1⟩ := hx
    have HC1 := Lib.hid (HRead.out _ _ _ _ _ HC.out hg1 hwr1)
    have hll := (lineS_ok hL).2.2.2
    have hlen := congrArg List.length (lineS_ok hL).1
    have HLt := Lib.hid (show r.length + l.length + 2 = s'.length by rw [hlen]; simp; omega)
    have HL := Lib.hid hL
    clear hL hwr1 hlen hg1 HC
    unfold str
    go_wp2_with fail
    refine (HSz.out l w1 hll).mono ?_
    rintro e w2 ⟨hb2, hx⟩
    have HC2 := Lib.hid (HBelow.out _ _ _ _ HC1.out hb2)
    rcases hz : sizeS l with _ | n
    · rw [hz] at hx
      obtain rfl := hx
      exact ⟨rfl, bodyP_no (by rw [← HK.out, chunks_size HL.out hz]) HC2.out.two⟩
    rw [hz] at hx
    obtain rfl := hx
    rw [chunks_some HL.out hz] at HK
    have HNb := Lib.hid (size_lt hz)
    clear hz HL HC1 hb2 hll
    by_cases hn0 : n = 0
    · subst hn0
      rw [if_pos rfl] at HK
      have HC3 := Lib.hid HC2.out
      clear HC2 HWS HBL HTk HSz hfo
      go_wp2_with fail
      go_loopw [8] (fun iv wx => ∃ (k f : Nat) (s3 : List UInt8), iv = .int .i64 k ∧ k + f = 32 ∧ CS w rb qb buf (.cells #[mv, tv, hv, bv, cv] 26 (0, 0)) wx s3 out ∧ Hid ((thenS (trailS f s3) fun _ r => .ok (out, r)) = ANS)) (fun _ wx => wleft buf wx rb)
      case atStart => exact ⟨0, 32, r, rfl, rfl, HC3.out, HK.out⟩
      case round =>
        obtain ⟨k, f3, s3, rfl, hkf, hcs, HT⟩ := hrel
        have HC := Lib.hid hcs
        have HM3 := Lib.hid hcs.rd.left
        clear hcs HC3 HK HM HLt
        go_wp2_with fail
        refine (HLn.out wr s3 HC.out.rd 431 400).mono ?_
        rintro e w4 ⟨hg4, hx⟩
        rcases hL : lineS 431 400 s3 with st | ⟨l4, r4⟩
        · rw [hL] at hx
          obtain rfl := hx
          exact ⟨rfl, bodyP_no (by rw [← HT.out, trail_err hL]; rfl) (HC.out.two.grow hg4 (.inr (.inl rfl)))⟩
        rw [hL] at hx
        obtain ⟨rfl, hwr4⟩ := hx
        have HC4 := Lib.hid (HRead.out _ _ _ _ _ HC.out hg4 hwr4)
        have hlen := congrArg List.length (lineS_ok hL).1
        have hlt4 : wleft buf w4 rb < wleft buf wr rb := by
          rw [hwr4.left, HM3.out, hlen]
          simp
          omega
        have HLt4 := Lib.hid hlt4
        have HL := Lib.hid hL
        clear hL hwr4 hlen hg4 HC hlt4
        unfold str
        rcases l4 with _ | ⟨l0, l1⟩
        · have HX := Lib.hid (show ANS = .ok (out, r4) by rw [← HT.out, trail_nil HL.out]; rfl)
          clear HT HL
          go_wp2_with fail
          refine (HBS.out w4 out HC4.out.bld).mono ?_
          rintro e w5 ⟨rfl, hb5⟩
          have hq5 := (hb5.block qb hql).trans HC4.out.q
          have c3 := wat hq5 3
          have f3' := wfree hq5 3
          replace c3 : w5.cell? ⟨qb, 3, none⟩ = some bv := c3
          have HQ5 := Lib.hid hq5
          have HR5 := Lib.hid (HC4.out.rd.low hb5 hrl)
          have HT5 := Lib.hid (HC4.out.two.low hb5)
          clear hq5 hb5 HC4
          go_wp2
          go_end0
          exact bodyP_ok HX.out (HT5.out.setq 3 _) (HR5.out.keep (grown_cell w5 qb 3 _) (fun e => by injection e with e; exact hne e)) (heap_setCell_same w5 qb 3 _ _ _ HQ5.out)
        · have hem : (l0 :: l1).isEmpty = false := rfl
          have hln : l0 :: l1 ≠ [] := by simp
          generalize l0 :: l1 = l4 at *
          by_cases hk32 : k = 32
          · have HX := Lib.hid (show ANS = .error 431 by
              obtain rfl : f3 = 0 := by omega
              rw [← HT.out, trail_zero HL.out hln]; rfl)
            subst hk32
            clear HT HL hln
            go_wp2_with (go_at_call 54; refine (HF.out _ _).mono ?_; rintro e w5 ⟨rfl, rfl⟩)
            exact ⟨rfl, bodyP_no HX.out HC4.out.two⟩
          · obtain ⟨f4, rfl⟩ : ∃ m, f3 = m + 1 := ⟨f3 - 1, by omega⟩
            have HX := Lib.hid (show (thenS (trailS f4 r4) fun _ r => .ok (out, r)) = ANS by rw [← HT.out, trail_next HL.out hln])
            have hkb : ((k : Int) == 32) = false := beq_eq_false_iff_ne.2 (by omega)
            clear HT HL hln hk32
            go_wp2
            go_roundw
            case rel => exact ⟨k + 1, f4, r4, by go_num, by omega, HC4.out, HX⟩
            case measure => exact HLt4.out
    · rw [if_neg hn0] at HK
      have hnb : ((n : Int) == 0) = false := beq_eq_false_iff_ne.2 (by omega)
      have HC3 := Lib.hid HC2.out
      clear HC2 HSz HBS HLn
      by_cases hbig : 8192 < out.length + n
      · rw [if_pos hbig] at HK
        have HX := Lib.hid (show ANS = .error 413 from HK.out.symm)
        have HLe := Lib.hid (HBL.out w2 out HC3.out.bld)
        have hbz : (8192 : Int) < (out.length : Int) + n := by omega
        have hn1 : (n : Int) ≤ 4294967296 := by have := HNb.out; omega
        clear HK hbig HWS HTk HBL hn0
        go_wp2_with (first | (go_at_call 73; refine HLe.out.mono ?_; rintro e w3 ⟨rfl, rfl⟩) | (go_at_call 54; refine (HF.out _ _).mono ?_; rintro e w3 ⟨rfl, rfl⟩))
        exact ⟨rfl, bodyP_no HX.out HC3.out.two⟩
      · rw [if_neg hbig] at HK
        have HLe := Lib.hid (HBL.out w2 out HC3.out.bld)
        have hbz : decide ((8192 : Int) < (out.length : Int) + n) = false := decide_eq_false (by omega)
        have hn8 : n ≤ 8192 := by omega
        have HTn := Lib.hid (HTk.out w2 r n HC3.out.rd (by omega))
        have HT1 := Lib.hid (fun w1 s (h : WR w1 rb buf s) => (show Calls Tryz.prog 62 #[.pointer (some ⟨rb, 0, none⟩), .int .i64 1] w1 (WOut rb buf (takeS 1 s) str w1) from HTk.out w1 s 1 h (by omega)))
        clear hbig HBL HTk
        go_wp2_with (go_at_call 73; refine HLe.out.mono ?_; rintro e w3 ⟨rfl, rfl⟩)
        refine HTn.out.mono ?_
        rintro e w3 ⟨hg3, hx⟩
        rcases hT : takeS n r with st | ⟨d, r2⟩
        · rw [hT] at hx HK
          obtain rfl := hx
          exact ⟨rfl, bodyP_no HK.out.symm (HC3.out.two.grow hg3 (.inr (.inl rfl)))⟩
        rw [hT] at hx HK
        obtain ⟨rfl, hwr3⟩ := hx
        have HK2 := Lib.hid (show (thenS (crlfS 0 r2) fun _ r => chunksS f (out ++ d) r) = ANS from HK.out)
        have hdl : d.length = n ∧ r2.length + n = r.length := by
          unfold takeS at hT
          split at hT
          · cases hT
          · injection hT with hT
            injection hT with e1 e2
            rw [← e1, ← e2, List.length_take, List.length_drop]
            omega
        have HC4 := Lib.hid (HRead.out _ _ _ _ _ HC3.out hg3 hwr3)
        have HDl := Lib.hid hdl
        clear hT HK hwr3 hg3 HC3 HLe HTn hdl
        unfold str
        go_wp2_with fail
        refine (HWS.out w3 out d HC4.out.bld (by have := HDl.out.1; omega)).mono ?_
        rintro e w4 ⟨rfl, hbl, hb4⟩
        have HC5 := Lib.hid (HWrite.out _ _ _ _ _ HC4.out hb4 hbl)
        clear hbl hb4 HC4 HWS
        have HIt := Lib.hid (World.iter_heap w4 ⟨#[13, 10]⟩ 0)
        have HC6 := Lib.hid (HBelow.out _ _ _ _ HC5.out ((Below.refl w4.heap.size w4).alloc (Nat.le_refl _) (.stringIter ⟨#[13, 10]⟩ 0)))
        have hwi : w.heap.size ≤ w4.heap.size := HC5.out.two.size
        clear HC5
        go_wp2_with fail
        go_loopw [7] (fun _ wx => ∃ (i : Nat) (s6 : List UInt8), i ≤ 2 ∧ wx.heap[w4.heap.size]? = some (.stringIter ⟨#[13, 10]⟩ i) ∧ CS w rb qb buf (.cells #[mv, tv, hv, bv, cv] 26 (0, 0)) wx s6 (out ++ d) ∧ Hid ((thenS (crlfS i s6) fun _ r => chunksS f (out ++ d) r) = ANS) ∧ s6.length ≤ r2.length) (fun _ wx => 2 - iterPos wx w4.heap.size)
        case atStart => exact ⟨0, r2, by omega, HIt.out, HC6.out, HK2.out, Nat.le_refl _⟩
        case round =>
          obtain ⟨i, s6, hi, hit, hcs, HJ, hle⟩ := hrel
          have HCi := Lib.hid hcs
          have Hit := Lib.hid hit
          have HPs := Lib.hid (iterPos_at hit)
          clear hcs hit HC6 HIt HK2
          by_cases hi2 : i = 2
          · subst hi2
            have hnx := fun ty => Lib.run_next_end_at (P := Tryz.prog) wr w4.heap.size ⟨#[13, 10]⟩ 2 ty Hit.out (by decide)
            have HX := Lib.hid (show chunksS f (out ++ d) s6 = ANS from HJ.out)
            clear HJ
            go_wp2
            go_roundw
            case rel => exact ⟨f, s6, out ++ d, HCi.out, HX, by rw [List.length_append, HDl.out.1]; omega, by rw [List.length_append, HDl.out.1]; simp at hbz; omega⟩
            case measure =>
              rw [HCi.out.rd.left, HM.out]
              have := HDl.out.2
              have := HLt.out
              omega
          by_cases hi0 : i = 0
          · obtain rfl : i = 0 := by omega
            have hnx : ∀ ty, (Instr.next (.pointer (some ⟨w4.heap.size, 0, none⟩)) true ty).run Tryz.prog wr = .ok (.tuple #[.bool true, .int .i64 0, .int .i32 13]) (wr.iterAt w4.heap.size ⟨#[13, 10]⟩ 1) := fun ty => Lib.run_next_ascii_at wr w4.heap.size ⟨#[13, 10]⟩ 0 ty Hit.out (by decide) (by decide)
            have HCy := Lib.hid (HCi.out.iter hrl hql (j := 1) Hit.out hwi)
            have HIy := Lib.hid (Lib.iterAt_heap wr w4.heap.size ⟨#[13, 10]⟩ 0 1 Hit.out)
            have henc := enc13
            clear hi hi2
            go_wp2_with fail
            clear hnx
            generalize wr.iterAt w4.heap.size ⟨#[13, 10]⟩ 1 = wy at *
            refine (HT1.out wy s6 HCy.out.rd).mono ?_
            rintro e w7 ⟨hg7, hx⟩
            rcases @one_take 13 s6 with ⟨h1, h2⟩ | ⟨d7, r7, h1, h3, h2⟩
            · rw [h1] at hx
              obtain rfl := hx
              exact ⟨rfl, bodyP_no (show ANS = .error (-1) by rw [← HJ.out]; rw [crlf0, h2]; rfl) (HCy.out.two.grow hg7 (.inr (.inl rfl)))⟩
            rw [h1] at hx
            obtain ⟨rfl, hwr7⟩ := hx
            have HC7 := Lib.hid (HRead.out _ _ _ _ _ HCy.out hg7 hwr7)
            have HI7 := Lib.hid ((hg7.block w4.heap.size (Array.getElem?_eq_some_iff.1 HIy.out).1 (fun e => by injection e with e; omega)).trans HIy.out)
            have hr7 : r7.length ≤ r2.length := by omega
            by_cases hd7 : d7 = 13
            · have HX := Lib.hid (show (thenS (crlfS 1 r7) fun _ r => chunksS f (out ++ d) r) = ANS by rw [← HJ.out]; rw [crlf0, h2, if_pos hd7]; rfl)
              subst hd7
              clear h1 h2 h3 hwr7 hg7 HJ HCy HIy
              have hms : 2 - iterPos w7 w4.heap.size < 2 - iterPos wr w4.heap.size := by rw [iterPos_at HI7.out, HPs.out]; omega
              have HMs := Lib.hid hms
              clear hms
              unfold str
              go_wp2
              go_roundw
              case rel => exact ⟨1, r7, by omega, HI7.out, HC7.out, HX, hr7⟩
              case measure => exact HMs.out
            · have HX := Lib.hid (show ANS = .error 400 by rw [← HJ.out]; rw [crlf0, h2, if_neg hd7]; rfl)
              have hdn : ([d7] == [13]) = false := beq_eq_false_iff_ne.2 (fun e => hd7 (by injection e))
              clear h1 h2 h3 hwr7 hg7 HJ HCy HIy hd7
              unfold str
              go_wp2_with (go_at_call 54; refine (HF.out _ _).mono ?_; rintro e w8 ⟨rfl, rfl⟩)
              exact ⟨rfl, bodyP_no HX.out HC7.out.two⟩
          · obtain rfl : i = 1 := by omega
            have hnx : ∀ ty, (Instr.next (.pointer (some ⟨w4.heap.size, 0, none⟩)) true ty).run Tryz.prog wr = .ok (.tuple #[.bool true, .int .i64 1, .int .i32 10]) (wr.iterAt w4.heap.size ⟨#[13, 10]⟩ 2) := fun ty => Lib.run_next_ascii_at wr w4.heap.size ⟨#[13, 10]⟩ 1 ty Hit.out (by decide) (by decide)
            have HCy := Lib.hid (HCi.out.iter hrl hql (j := 2) Hit.out hwi)
            have HIy := Lib.hid (Lib.iterAt_heap wr w4.heap.size ⟨#[13, 10]⟩ 1 2 Hit.out)
            have henc := enc10
            clear hi hi2
            go_wp2_with fail
            clear hnx
            generalize wr.iterAt w4.heap.size ⟨#[13, 10]⟩ 2 = wy at *
            refine (HT1.out wy s6 HCy.out.rd).mono ?_
            rintro e w7 ⟨hg7, hx⟩
            rcases @one_take 10 s6 with ⟨h1, h2⟩ | ⟨d7, r7, h1, h3, h2⟩
            · rw [h1] at hx
              obtain rfl := hx
              exact ⟨rfl, bodyP_no (show ANS = .error (-1) by rw [← HJ.out]; rw [crlf1, h2]; rfl) (HCy.out.two.grow hg7 (.inr (.inl rfl)))⟩
            rw [h1] at hx
            obtain ⟨rfl, hwr7⟩ := hx
            have HC7 := Lib.hid (HRead.out _ _ _ _ _ HCy.out hg7 hwr7)
            have HI7 := Lib.hid ((hg7.block w4.heap.size (Array.getElem?_eq_some_iff.1 HIy.out).1 (fun e => by injection e with e; omega)).trans HIy.out)
            have hr7 : r7.length ≤ r2.length := by omega
            by_cases hd7 : d7 = 10
            · have HX := Lib.hid (show (thenS (crlfS 2 r7) fun _ r => chunksS f (out ++ d) r) = ANS by rw [← HJ.out]; rw [crlf1, h2, if_pos hd7]; rfl)
              subst hd7
              clear h1 h2 h3 hwr7 hg7 HJ HCy HIy
              have hms : 2 - iterPos w7 w4.heap.size < 2 - iterPos wr w4.heap.size := by rw [iterPos_at HI7.out, HPs.out]; omega
              have HMs := Lib.hid hms
              clear hms
              unfold str
              go_wp2
              go_roundw
              case rel => exact ⟨2, r7, by omega, HI7.out, HC7.out, HX, hr7⟩
              case measure => exact HMs.out
            · have HX := Lib.hid (show ANS = .error 400 by rw [← HJ.out]; rw [crlf1, h2, if_neg hd7]; rfl)
              have hdn : ([d7] == [10]) = false := beq_eq_false_iff_ne.2 (fun e => hd7 (by injection e))
              clear h1 h2 h3 hwr7 hg7 HJ HCy HIy hd7
              unfold str
              go_wp2_with (go_at_call 54; refine (HF.out _ _).mono ?_; rintro e w8 ⟨rfl, rfl⟩)
              exact ⟨rfl, bodyP_no HX.out HC7.out.two⟩
end Go.Proofs.YtlkbfehdiopkbaaGreatDoor

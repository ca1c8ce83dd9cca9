/-
  Parts of the walks and plain laws of layer 10, joined: AskPlain AskMem. Conditions: as each theorem states them.
-/
import Derived.Test.YtopogglcnnjdlaaGreatDoorXmlZ20
import Derived.Test.YtopogglcnnjdlaaGreatDoorXmlZ26
import Derived.Test.YtopogglcnnjdlaaGreatDoorXmlZ30
/-! AskPlain -/
namespace Go.Proofs.YtopogglcnnjdlaaGreatDoor
set_option linter.unusedVariables false
set_option linter.unusedSimpArgs false

def wDav : List UInt8 := [68, 65, 86, 58]
def davN (name : List UInt8) (kids : List NodeT) : NodeT := .mk [] wDav name [] kids
def isD (n : NodeT) (w : List UInt8) : Bool := decide (n.name = w) && decide (n.space = wDav)
def eachD (l : List NodeT) (w : List UInt8) : List NodeT := l.flatMap fun n => n.kids.filter fun k => isD k w
def askRead (body w : List UInt8) : Except Int NodeT :=
  match parseX body with
  | .error e => .error e
  | .ok n => if isD n w then .ok n else .error 50
/-! PROPPATCH -/
def wUpdate : List UInt8 := [112, 114, 111, 112, 101, 114, 116, 121, 117, 112, 100, 97, 116, 101]
def wSet : List UInt8 := [115, 101, 116]
def wRemove : List UInt8 := [114, 101, 109, 111, 118, 101]
def wProp : List UInt8 := [112, 114, 111, 112]
def wOther : List UInt8 := [111, 116, 104, 101, 114]
structure ChgT where
  remove : Bool
  value : NodeT
def chgK (k : NodeT) : List ChgT := if isD k wSet || isD k wRemove then (eachD [k] wProp).flatMap fun p => (p.kids.filter fun v => !decide (v.name = [])).map fun v => ⟨decide (k.name = wRemove), v⟩ else []
def chgT (n : NodeT) : List ChgT := n.kids.flatMap chgK
def askChanges (body : List UInt8) : Except Int (List ChgT) :=
  match askRead body wUpdate with
  | .error e => .error e
  | .ok n => if (chgT n).isEmpty then .error 50 else if 32 < (chgT n).length then .error 4 else .ok (chgT n)
/-! the tree that the law writes -/
def chgName (c : ChgT) : List UInt8 := if c.remove then wRemove else wSet
def noisy (noise : NodeT) : Bool := !decide (noise.name = wSet) && !decide (noise.name = wRemove)
def chgTree (noise : NodeT) (c : ChgT) : List NodeT := davN (chgName c) [davN wOther [], davN wProp [c.value]] :: (if noisy noise then [noise] else [])
def chgRoot (noise : NodeT) (l : List ChgT) : NodeT := davN wUpdate (l.flatMap (chgTree noise))
theorem chgK_noise {n : NodeT} (h : noisy n = true) : chgK n = [] := by
  unfold noisy at h
  rw [Bool.and_eq_true] at h
  unfold chgK
  rw [if_neg]
  unfold isD
  simp only [Bool.not_eq_true', decide_eq_false_iff_not] at h
  simp [h.1, h.2]
theorem chgK_own (c : ChgT) : chgK (davN (chgName c) [davN wOther [], davN wProp [c.value]]) = if c.value.name = [] then [] else [c] := by
  obtain ⟨r, v⟩ := c
  have e1 : isD (davN wOther []) wProp = false := by decide
  have e2 : isD (davN wProp [v]) wProp = true := rfl
  have e3 : (isD (davN (chgName ⟨r, v⟩) [davN wOther [], davN wProp [v]]) wSet || isD (davN (chgName ⟨r, v⟩) [davN wOther [], davN wProp [v]]) wRemove) = true := by cases r <;> rfl
  have e4 : decide ((davN (chgName ⟨r, v⟩) [davN wOther [], davN wProp [v]]).name = wRemove) = r := by cases r <;> rfl
  unfold chgK
  rw [if_pos e3, e4]
  unfold eachD
  have e5 : (davN (chgName ⟨r, v⟩) [davN wOther [], davN wProp [v]]).kids = [davN wOther [], davN wProp [v]] := rfl
  simp only [List.flatMap_cons, List.flatMap_nil, List.append_nil, e5, List.filter_cons, e1, e2, List.filter_nil]
  show (List.filter (fun v => !decide (v.name = [])) [v]).map _ ++ [] = _
  by_cases h : v.name = []
  · simp [h]
  · simp [h]
theorem chgT_root (noise : NodeT) : ∀ l : List ChgT, (l.flatMap (chgTree noise)).flatMap chgK = l.filter fun c => !decide (c.value.name = [])
  | [] => rfl
  | c :: l => by
    rw [List.flatMap_cons, List.flatMap_append, chgT_root noise l, List.filter_cons]
    unfold chgTree
    rw [List.flatMap_cons, chgK_own]
    have e : (if noisy noise = true then [noise] else []).flatMap chgK = [] := by
      split
      · rename_i h
        simp [chgK_noise h]
      · rfl
    rw [e, List.append_nil]
    by_cases h : c.value.name = []
    · simp [h]
    · simp [h]
theorem chg_read {noise : NodeT} {l : List ChgT} {s : List UInt8} (h : writeX (chgRoot noise l) = .ok s) : askChanges s = if (l.filter fun c => !decide (c.value.name = [])).isEmpty then .error 50 else if 32 < (l.filter fun c => !decide (c.value.name = [])).length then .error 4 else .ok (l.filter fun c => !decide (c.value.name = [])) := by
  unfold writeX at h
  split at h
  · rename_i hg
    split at h
    · cases h
    · rename_i hl
      injection h with h
      subst h
      unfold askChanges askRead
      rw [parse_form hg (by omega)]
      have e1 : isD (chgRoot noise l) wUpdate = true := rfl
      have e2 : chgT (chgRoot noise l) = l.filter fun c => !decide (c.value.name = []) := chgT_root noise l
      simp only [e1, if_true, e2]
  · cases h
/-! PROPFIND -/
def wFind : List UInt8 := [112, 114, 111, 112, 102, 105, 110, 100]
def wAll : List UInt8 := [97, 108, 108, 112, 114, 111, 112]
def wNames : List UInt8 := [112, 114, 111, 112, 110, 97, 109, 101]
structure PropT where
  space : List UInt8
  name : List UInt8
deriving DecidableEq
/-- names, each once, in order. -/
def addP (l : List PropT) (p : PropT) : List PropT := if p ∈ l then l else l ++ [p]
def onceP (l : List PropT) : List PropT := l.foldl addP []
structure FindT where
  kind : Int
  names : List PropT
def zeroF : FindT := ⟨0, []⟩
def propsK (n : NodeT) : List PropT := onceP ((n.kids.filter fun k => !decide (k.name = [])).map fun k => ⟨k.space, k.name⟩)
def findT (n : NodeT) : Except Int FindT :=
  if (eachD [n] wAll).length + (eachD [n] wNames).length + (eachD [n] wProp).length ≠ 1 then .error 50
  else if (eachD [n] wAll).length = 1 then .ok zeroF
  else if (eachD [n] wNames).length = 1 then .ok ⟨1, []⟩
  else match eachD [n] wProp with
    | [] => .error 50
    | p :: _ => if 32 < (propsK p).length then .error 4 else .ok ⟨2, propsK p⟩
def askFind (body : List UInt8) : Except Int FindT :=
  if body = [] then .ok zeroF else
  match askRead body wFind with
  | .error e => .error e
  | .ok n => findT n
def nameN (p : PropT) : NodeT := .mk [] p.space p.name [] []
def propN (l : List PropT) : NodeT := davN wProp (l.map nameN)
def two3 (k : Nat) : List UInt8 := if k = 0 then wAll else if k = 1 then wNames else wProp
theorem name_form (n : NodeT) : (formN [] n) = [] → n.name = [] := by
  obtain ⟨t, s, m, asz, ks⟩ := n
  intro h
  by_cases hm : m = []
  · exact hm
  · unfold formN at h
    rw [if_neg hm] at h
    unfold headF at h
    simp at h
theorem xread_back {n : NodeT} {s : List UInt8} (h : writeX n = .ok s) : parseX s = .ok n ∧ s ≠ [] ∧ goodT n = true ∧ s.length ≤ 65536 := by
  unfold writeX at h
  split at h
  · rename_i hg
    split at h
    · cases h
    · rename_i hl
      injection h with h
      subst h
      refine ⟨parse_form hg (by omega), fun e => ?_, hg, by omega⟩
      have := name_form n e
      have h3 := (goodT_parts hg).2.2
      exact h3 this
  · cases h
theorem eachD_one (n : NodeT) (w : List UInt8) : eachD [n] w = n.kids.filter fun k => isD k w := by
  unfold eachD
  simp
/-- one list of names alone. -/
theorem find_read {l : List PropT} {s : List UInt8} (h : writeX (davN wFind [propN l]) = .ok s) (hn : ∀ p ∈ l, p.name ≠ []) : askFind s = if 32 < (onceP l).length then .error 4 else .ok ⟨2, onceP l⟩ := by
  obtain ⟨h1, h2, -⟩ := xread_back h
  unfold askFind askRead
  rw [if_neg h2, h1]
  have e0 : isD (davN wFind [propN l]) wFind = true := rfl
  simp only [e0, if_true]
  unfold findT
  have e1 : eachD [davN wFind [propN l]] wAll = [] := by rw [eachD_one]; rfl
  have e2 : eachD [davN wFind [propN l]] wNames = [] := by rw [eachD_one]; rfl
  have e3 : eachD [davN wFind [propN l]] wProp = [propN l] := by rw [eachD_one]; rfl
  have e4 : propsK (propN l) = onceP l := by
    unfold propsK
    congr 1
    show ((l.map nameN).filter fun k => !decide (k.name = [])).map _ = l
    induction l with
    | nil => rfl
    | cons p l ih =>
      have hp := hn p (List.mem_cons_self ..)
      have : (!decide ((nameN p).name = [])) = true := by
        have : ¬ (nameN p).name = [] := hp
        simp [this]
      rw [List.map_cons, List.filter_cons, if_pos this, List.map_cons]
      congr 1
      have hw : ∀ q, q ∈ l → q.name ≠ [] := fun q hq => hn q (List.mem_cons_of_mem _ hq)
      clear ih hn h h1 h2 e0 e1 e2 e3 hp this
      induction l with
      | nil => rfl
      | cons q l ih =>
        have hq : ¬ (nameN q).name = [] := hw q (List.mem_cons_self ..)
        rw [List.map_cons, List.filter_cons, if_pos (by simp [hq]), List.map_cons, ih fun r hr => hw r (List.mem_cons_of_mem _ hr)]
        rfl
  rw [e1, e2, e3, if_neg (by simp), if_neg (by simp), if_neg (by simp)]
  show (if 32 < (propsK (propN l)).length then _ else _) = _
  rw [e4]
/-- two ways of asking at one time are none. -/
theorem find_two {l : List PropT} {k : Nat} {s : List UInt8} (h : writeX (davN wFind [propN l, davN (two3 k) []]) = .ok s) : askFind s = .error 50 := by
  obtain ⟨h1, h2, -⟩ := xread_back h
  unfold askFind askRead
  rw [if_neg h2, h1]
  have e0 : isD (davN wFind [propN l, davN (two3 k) []]) wFind = true := rfl
  simp only [e0, if_true]
  unfold findT
  have e1 : eachD [davN wFind [propN l, davN (two3 k) []]] wAll = if k = 0 then [davN wAll []] else [] := by
    rw [eachD_one]
    unfold two3
    show ([propN l, davN _ []].filter fun x => isD x wAll) = _
    have : isD (propN l) wAll = false := rfl
    rw [List.filter_cons, if_neg (by rw [this]; decide)]
    split
    · rfl
    · split <;> rfl
  have e2 : eachD [davN wFind [propN l, davN (two3 k) []]] wNames = if k = 1 then [davN wNames []] else [] := by
    rw [eachD_one]
    unfold two3
    show ([propN l, davN _ []].filter fun x => isD x wNames) = _
    have : isD (propN l) wNames = false := rfl
    rw [List.filter_cons, if_neg (by rw [this]; decide)]
    split
    · rename_i hk; rw [if_neg (by omega)]; rfl
    · split <;> rfl
  have e3 : (eachD [davN wFind [propN l, davN (two3 k) []]] wProp).length = 1 + if k = 0 ∨ k = 1 then 0 else 1 := by
    rw [eachD_one]
    unfold two3
    show ([propN l, davN _ []].filter fun x => isD x wProp).length = _
    have : isD (propN l) wProp = true := rfl
    rw [List.filter_cons, if_pos this]
    by_cases h0 : k = 0
    · rw [if_pos h0, if_pos (.inl h0)]; rfl
    · by_cases h1 : k = 1
      · rw [if_neg h0, if_pos h1, if_pos (.inr h1)]; rfl
      · rw [if_neg h0, if_neg h1, if_neg (by simp [h0, h1])]; rfl
  rw [if_pos]
  rw [e1, e2, e3]
  by_cases h0 : k = 0
  · subst h0; simp
  · by_cases h1 : k = 1
    · subst h1; simp
    · simp [h0, h1]
/-! LOCK -/
def wLock : List UInt8 := [108, 111, 99, 107, 105, 110, 102, 111]
def wScope : List UInt8 := [108, 111, 99, 107, 115, 99, 111, 112, 101]
def wType : List UInt8 := [108, 111, 99, 107, 116, 121, 112, 101]
def wOwner : List UInt8 := [111, 119, 110, 101, 114]
def wExcl : List UInt8 := [101, 120, 99, 108, 117, 115, 105, 118, 101]
def wShared : List UInt8 := [115, 104, 97, 114, 101, 100]
def wWrite : List UInt8 := [119, 114, 105, 116, 101]
structure AskT where
  excl : Bool
  owner : List UInt8
def lockT (n : NodeT) : Except Int AskT :=
  if (eachD [n] wScope).length ≠ 1 ∨ (eachD [n] wType).length ≠ 1 ∨ 1 < (eachD [n] wOwner).length then .error 50
  else if (eachD (eachD [n] wScope) wExcl).length + (eachD (eachD [n] wScope) wShared).length ≠ 1 ∨ (eachD (eachD [n] wType) wWrite).length = 0 then .error 50
  else match eachD [n] wOwner with
    | [] => .ok ⟨decide ((eachD (eachD [n] wScope) wExcl).length = 1), []⟩
    | o :: _ => match writeX o with
      | .error _ => .error 5
      | .ok s => if 512 < s.length then .error 5 else .ok ⟨decide ((eachD (eachD [n] wScope) wExcl).length = 1), s⟩
def askLock (body : List UInt8) : Except Int AskT :=
  match askRead body wLock with
  | .error e => .error e
  | .ok n => lockT n
def ownN (owner : NodeT) : NodeT := if owner.name = [] ∧ owner.text = [] then davN wOwner [] else davN wOwner [owner]
def scopeW (b : Bool) : List UInt8 := if b then wExcl else wShared
def lockN (b : Bool) (owner noise : NodeT) : NodeT := davN wLock ([davN wScope [davN (scopeW b) []], davN wType [davN wWrite []], ownN owner] ++ (if noise.space = wDav then [] else [noise]))
theorem isD_noise {n : NodeT} (h : n.space ≠ wDav) (w : List UInt8) : isD n w = false := by
  unfold isD
  simp [h]
theorem davN_is (n : List UInt8) (ks : List NodeT) (w : List UInt8) : isD (davN n ks) w = decide (n = w) := by
  show (decide (n = w) && decide (wDav = wDav)) = _
  rw [decide_eq_true rfl, Bool.and_true]
theorem ownN_is (o : NodeT) (w : List UInt8) : isD (ownN o) w = decide (wOwner = w) := by
  unfold ownN
  split <;> exact davN_is _ _ _
theorem lock_read {b : Bool} {owner noise : NodeT} {s form : List UInt8} (h : writeX (lockN b owner noise) = .ok s) (hf : writeX (ownN owner) = .ok form) : askLock s = if 512 < form.length then .error 5 else .ok ⟨b, form⟩ := by
  obtain ⟨h1, h2, -⟩ := xread_back h
  unfold askLock askRead
  rw [h1]
  have e0 : isD (lockN b owner noise) wLock = true := rfl
  simp only [e0, if_true]
  unfold lockT
  have key : ∀ w, eachD [lockN b owner noise] w = [davN wScope [davN (scopeW b) []], davN wType [davN wWrite []], ownN owner].filter fun k => isD k w := by
    intro w
    rw [eachD_one]
    show (([davN wScope [davN (scopeW b) []], davN wType [davN wWrite []], ownN owner] ++ (if noise.space = wDav then [] else [noise])).filter fun k => isD k w) = _
    rw [List.filter_append]
    split
    · rw [List.filter_nil, List.append_nil]
    · rename_i hs
      have hz := isD_noise hs w
      rw [List.filter_cons (x := noise), if_neg (by rw [hz]; decide), List.filter_nil, List.append_nil]
  have e1 : eachD [lockN b owner noise] wScope = [davN wScope [davN (scopeW b) []]] := by
    rw [key]; simp only [List.filter_cons, davN_is, ownN_is]; rfl
  have e2 : eachD [lockN b owner noise] wType = [davN wType [davN wWrite []]] := by
    rw [key]; simp only [List.filter_cons, davN_is, ownN_is]; rfl
  have e3 : eachD [lockN b owner noise] wOwner = [ownN owner] := by
    rw [key]; simp only [List.filter_cons, davN_is, ownN_is]; rfl
  rw [e1, e2, e3]
  have e4 : eachD [davN wScope [davN (scopeW b) []]] wExcl = if b then [davN wExcl []] else [] := by cases b <;> (rw [eachD_one]; rfl)
  have e5 : eachD [davN wScope [davN (scopeW b) []]] wShared = if b then [] else [davN wShared []] := by cases b <;> (rw [eachD_one]; rfl)
  have e6 : eachD [davN wType [davN wWrite []]] wWrite = [davN wWrite []] := by rw [eachD_one]; rfl
  rw [e4, e5, e6]
  simp only [hf]
  cases b <;> simp
end Go.Proofs.YtopogglcnnjdlaaGreatDoor
/-! AskMem -/
namespace Go.Proofs.YtopogglcnnjdlaaGreatDoor
set_option linter.unusedVariables false
set_option linter.unusedSimpArgs false
open Go.RowKit

theorem mov_node : Mov NodeP := fun P Q w w' cs x h m => h.move m
def PropR (_ : Nat → Prop) (_ : World) (cs : List Value) (p : PropT) : Prop := cs = [.string ⟨p.space.toArray⟩, .string ⟨p.name.toArray⟩]
theorem mov_prop : Mov PropR := fun P Q w w' cs x h m => h
def ChgR (P : Nat → Prop) (w : World) (cs : List Value) (c : ChgT) : Prop := ∃ ncs, cs = .bool c.remove :: ncs ∧ NodeP P w ncs c.value
theorem mov_chg : Mov ChgR := fun P Q w w' cs x ⟨ncs, h1, h2⟩ m => ⟨ncs, h1, h2.move m⟩
theorem elemC : ElemN Tryz.prog 22 30 6 (.agg #[.bool false, .string ⟨#[]⟩, .string ⟨#[]⟩, .string ⟨#[]⟩, .slice none 0 0, .slice none 0 0]) 104 := ⟨Tryz.underlying22, by kernel_rfl, rfl, by omega, by omega⟩
theorem elemP : ElemN Tryz.prog 63 83 2 (.agg #[.string ⟨#[]⟩, .string ⟨#[]⟩]) 32 := ⟨Tryz.underlying63, by kernel_rfl, rfl, by omega, by omega⟩
/-- some records that lie in a block of cells, one behind the other. -/
theorem many_row {α : Type} {n : Nat} {R : World → List Value → α → Prop} {P : Nat → Prop} {w : World} {b : Nat} {ty : TypeId} {rows : List (List Value)} {xs : List α} (h : w.heap[b]? = some (.cells rows.flatten.toArray ty (0, 0))) (hl : ∀ r ∈ rows, r.length = n) (hx : rows.length = xs.length) (hm : xs.length ≤ maxLen)
    (hr : ∀ (j : Nat) (r : List Value) (x : α), rows[j]? = some r → xs[j]? = some x → R w r x) (hP : P b) : TabP n R P w (.slice (some ⟨b, 0, none⟩) xs.length xs.length) xs := by
  refine ⟨⟨_, xs.length, rfl, Nat.le_refl _, hm, fun j x hj => ?_⟩, fun _ k hk => ?_⟩
  · have hjl : j < rows.length := by rw [hx]; exact (List.getElem?_eq_some_iff.1 hj).1
    have hjr := List.getElem?_eq_getElem hjl
    refine ⟨b, 0, rfl, xlt h, rows[j], hl _ (List.getElem_mem _), fun k u hk => ?_, hr j _ x hjr hj⟩
    have hkn : k < n := by rw [← hl rows[j] (List.getElem_mem _)]; exact (List.getElem?_eq_some_iff.1 hk).1
    rw [xat h, Nat.zero_add, List.getElem?_toArray, flatten_at hl j _ hjr k hkn]
    exact hk
  · obtain rfl : b = k := by injection hk
    exact hP
/-- what a call that may refuse answers. -/
def okOr {α : Type} (d : α) (x : Except Int α) : α := match x with
  | .ok a => a
  | .error _ => d
def errX {α : Type} (x : Except Int α) : Int := match x with
  | .ok _ => 0
  | .error k => k
/-- a list of trees is handed back; what hangs on them lies in blocks of P's. -/
def NodesV (P : Nat → Prop) (l : List NodeT) (w : World) (e : Ending) (w' : World) : Prop := Below w.heap.size w w' ∧ ∃ kA kc, e = .returned (.slice kA l.length kc) ∧ Tab 5 (NodeP P) w' (.slice kA l.length kc) l ∧ ∀ k, (Value.slice kA l.length kc).ownBlock = some k → w.heap.size ≤ k
theorem kid_atT {P : Nat → Prop} {w : World} {A : Option Addr} {n cap : Nat} {ks : List NodeT} (h : Tab 5 (NodeP P) w (.slice A n cap) ks) : n = ks.length ∧ n ≤ cap ∧ cap ≤ maxLen ∧ ∀ j x, ks[j]? = some x → ∃ b o aA ac kA kc, A = some ⟨b, o, none⟩ ∧ b < w.heap.size ∧
    w.cell? ⟨b, o + j * 5, none⟩ = some (.string ⟨x.text.toArray⟩) ∧ w.cell? ⟨b, o + j * 5 + 1, none⟩ = some (.string ⟨x.space.toArray⟩) ∧ w.cell? ⟨b, o + j * 5 + 2, none⟩ = some (.string ⟨x.name.toArray⟩) ∧ w.cell? ⟨b, o + j * 5 + 3, none⟩ = some (.slice aA x.attrs.length ac) ∧ w.cell? ⟨b, o + j * 5 + 4, none⟩ = some (.slice kA x.kids.length kc) ∧
    AttrsP P w (.slice aA x.attrs.length ac) x.attrs ∧ NodesP P w (.slice kA x.kids.length kc) x.kids := by
  obtain ⟨A', cap', hv, h1, h2, hc⟩ := h
  injection hv with e1 e2 e3
  subst e1 e2 e3
  refine ⟨rfl, h1, h2, fun j x hj => ?_⟩
  obtain ⟨b, o, hA, hb, cs, hl, hcell, hr⟩ := hc j x hj
  obtain ⟨av, kv, rfl, ha, hk⟩ := hr.parts
  obtain ⟨aA, ac, rfl⟩ := tab_shape ha.1
  obtain ⟨kA, kc, rfl⟩ := tab_shape hk.1
  exact ⟨b, o, aA, ac, kA, kc, hA, hb, hcell 0 _ rfl, hcell 1 _ rfl, hcell 2 _ rfl, hcell 3 _ rfl, hcell 4 _ rfl, ha, hk⟩
theorem node_of {P : Nat → Prop} {w : World} {n : NodeT} {aA kA : Option Addr} {ac kc : Nat} (ha : AttrsP P w (.slice aA n.attrs.length ac) n.attrs) (hk : NodesP P w (.slice kA n.kids.length kc) n.kids) : NodeP P w [.string ⟨n.text.toArray⟩, .string ⟨n.space.toArray⟩, .string ⟨n.name.toArray⟩, .slice aA n.attrs.length ac, .slice kA n.kids.length kc] n := by
  have := NodeP.of (t := n.text) (s := n.space) (n := n.name) ha hk
  obtain ⟨t, s, m, ats, ks⟩ := n
  exact this
theorem tab_under {P : Nat → Prop} {w w' : World} {v : Value} {l : List NodeT} (h : Tab 5 (NodeP P) w v l) (hb : Below w.heap.size w w') : Tab 5 (NodeP P) w' v l := Tab.below h hb (Nat.le_refl _) fun _ _ hx => hx.move (Moves.below hb fun _ hk _ => hk)
/-- a list of trees and an error are handed back. -/
def NodesE (x : Except Int (List NodeT)) (w : World) (e : Ending) (w' : World) : Prop := Below w.heap.size w w' ∧ ∃ kA kc, e = .returned (.tuple #[.slice kA (okOr [] x).length kc, .int .i64 (errX x)]) ∧ NodesP anyB w' (.slice kA (okOr [] x).length kc) (okOr [] x)
def FindV (x : Except Int FindT) (w : World) (e : Ending) (w' : World) : Prop := Below w.heap.size w w' ∧ ∃ nA nc, e = .returned (.tuple #[.agg #[.int .i64 (okOr zeroF x).kind, .slice nA (okOr zeroF x).names.length nc], .int .i64 (errX x)]) ∧ Tab 2 (PropR anyB) w' (.slice nA (okOr zeroF x).names.length nc) (okOr zeroF x).names
def ChgsV (x : Except Int (List ChgT)) (w : World) (e : Ending) (w' : World) : Prop := Below w.heap.size w w' ∧ ∃ cA cc, e = .returned (.tuple #[.slice cA (okOr [] x).length cc, .int .i64 (errX x)]) ∧ Tab 6 (ChgR anyB) w' (.slice cA (okOr [] x).length cc) (okOr [] x)
def zeroA : AskT := ⟨false, []⟩
def LockV (x : Except Int AskT) (w : World) (e : Ending) (w' : World) : Prop := Below w.heap.size w w' ∧ e = .returned (.tuple #[.agg #[.bool (okOr zeroA x).excl, .string ⟨(okOr zeroA x).owner.toArray⟩], .int .i64 (errX x)])
/-! how many -/
theorem countN_kids (n : NodeT) : countL n.kids < countN n := by
  obtain ⟨t, s, m, ats, ks⟩ := n
  rw [countN]
  show countL ks < _
  omega
theorem eachD_len : ∀ (l : List NodeT) (w : List UInt8), (eachD l w).length ≤ countL l
  | [], _ => Nat.zero_le _
  | n :: l, w => by
    have h1 := eachD_len l w
    have h2 := countN_kids n
    have h3 : n.kids.length ≤ countL n.kids := by
      generalize n.kids = ks
      clear h1 h2
      induction ks with
      | nil => exact Nat.zero_le _
      | cons k r ih =>
        rw [countL, List.length_cons]
        have : 1 ≤ countN k := by obtain ⟨t, s, m, ats, ks⟩ := k; rw [countN]; omega
        omega
    have h4 := List.length_filter_le (fun k => isD k w) n.kids
    unfold eachD at h1 ⊢
    rw [List.flatMap_cons, List.length_append, countL]
    omega
theorem parse_good {s : List UInt8} {n : NodeT} (h : parseX s = .ok n) : goodT n = true := by
  unfold parseX at h
  repeat' (first | split at h | skip)
  all_goals first | (cases h; done) | skip
  simp only at h
  repeat' split at h
  all_goals first | (injection h with h; subst h; assumption) | cases h
theorem good_count {n : NodeT} (h : goodT n = true) : countN n ≤ 4096 := by
  unfold goodT at h
  rw [Bool.and_eq_true, Bool.and_eq_true] at h
  exact of_decide_eq_true h.1.2
/-! the law's own words -/
theorem filter_at {α : Type} (p : α → Bool) : ∀ (l : List α) (i : Nat) (x : α), l[i]? = some x → p x = true → (l.filter p)[((l.take i).filter p).length]? = some x
  | [], _, _, h, _ => by simp at h
  | y :: l, 0, x, h, hp => by
    obtain rfl : y = x := by simpa using h
    rw [List.take_zero, List.filter_cons, if_pos hp]
    rfl
  | y :: l, i + 1, x, h, hp => by
    have ih := filter_at p l i x (by simpa using h) hp
    rw [List.take_succ_cons, List.filter_cons, List.filter_cons]
    by_cases hy : p y = true
    · rw [if_pos hy, if_pos hy, List.length_cons, List.getElem?_cons_succ]
      exact ih
    · rw [if_neg hy, if_neg hy]
      exact ih
theorem filter_next {α : Type} (p : α → Bool) (l : List α) (i : Nat) (x : α) (h : l[i]? = some x) : ((l.take (i + 1)).filter p).length = ((l.take i).filter p).length + if p x then 1 else 0 := by
  rw [List.take_add_one, h, List.filter_append, List.length_append]
  congr 1
  show (List.filter p [x]).length = _
  rw [List.filter_cons]
  split <;> rfl
end Go.Proofs.YtopogglcnnjdlaaGreatDoor

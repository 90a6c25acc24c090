/- The patch layer as plain functions on lists. -/
import Derived.Test.YtfnkjcodcoehcaaTypes
namespace Go.Proofs.Ytfnkjcodcoehcaa

def put1 (c : Ch) : List At := if c.gone then [] else [⟨c.key, c.v⟩]
def drop1 (k : Int) : List At → List At
  | [] => []
  | a :: s => if a.key = k then s else a :: s
def applyP : List Ch → List At → List At
  | [], s => s
  | c :: p, s => s.takeWhile (fun a => decide (a.key < c.key)) ++ (put1 c ++ applyP p (drop1 c.key (s.dropWhile (fun a => decide (a.key < c.key)))))
/-- what is left to do at a change -/
def applyAt (c : Ch) (p : List Ch) (s : List At) : List At :=
  s.takeWhile (fun a => decide (a.key < c.key)) ++ (put1 c ++ applyP p (drop1 c.key (s.dropWhile (fun a => decide (a.key < c.key)))))

theorem applyP_cons (c : Ch) (p : List Ch) (s : List At) : applyP (c :: p) s = applyAt c p s := rfl
theorem applyAt_less (c : Ch) (p : List Ch) (a : At) (s : List At) (h : a.key < c.key) : applyAt c p (a :: s) = a :: applyAt c p s := by
  simp [applyAt, h]
theorem applyAt_eq (c : Ch) (p : List Ch) (a : At) (s : List At) (h : a.key = c.key) : applyAt c p (a :: s) = put1 c ++ applyP p s := by
  simp [applyAt, h, drop1]
theorem applyAt_more (c : Ch) (p : List Ch) (a : At) (s : List At) (h : c.key < a.key) : applyAt c p (a :: s) = put1 c ++ applyP p (a :: s) := by
  have h1 : ¬ a.key < c.key := by omega
  have h2 : ¬ a.key = c.key := by omega
  simp [applyAt, h1, h2, drop1]
theorem applyAt_nil (c : Ch) (p : List Ch) : applyAt c p [] = put1 c ++ applyP p [] := by
  simp [applyAt, drop1]
theorem put1_gone (c : Ch) (h : c.gone = true) : put1 c = [] := by simp [put1, h]
theorem put1_set (c : Ch) (h : c.gone = false) : put1 c = [⟨c.key, c.v⟩] := by simp [put1, h]

def chg (a : At) : Ch := ⟨a.key, false, a.v⟩
def goneC (a : At) : Ch := ⟨a.key, true, V.zero⟩
def diffMid (rest : List At → List Ch) (x : At) : List At → List Ch
  | [] => chg x :: rest []
  | y :: t => if y.key = x.key then (if y.v = x.v then rest t else chg x :: rest t) else chg x :: rest (y :: t)
def diffP : List At → List At → List Ch
  | a, [] => a.map goneC
  | a, x :: b => (a.takeWhile (fun y => decide (y.key < x.key))).map goneC ++ diffMid (fun r => diffP r b) x (a.dropWhile (fun y => decide (y.key < x.key)))
/-- what is left to do at an attribute of the second set -/
def diffAt (a : List At) (x : At) (b : List At) : List Ch :=
  (a.takeWhile (fun y => decide (y.key < x.key))).map goneC ++ diffMid (fun r => diffP r b) x (a.dropWhile (fun y => decide (y.key < x.key)))
theorem diffP_cons (a : List At) (x : At) (b : List At) : diffP a (x :: b) = diffAt a x b := by simp [diffP, diffAt]
theorem diffP_nil (a : List At) : diffP a [] = a.map goneC := by simp [diffP]
theorem diffAt_less (y : At) (a : List At) (x : At) (b : List At) (h : y.key < x.key) : diffAt (y :: a) x b = goneC y :: diffAt a x b := by simp [diffAt, h]
theorem diffAt_same (y : At) (a : List At) (x : At) (b : List At) (h : y.key = x.key) (hv : y.v = x.v) : diffAt (y :: a) x b = diffP a b := by
  have : ¬ y.key < x.key := by omega
  simp [diffAt, diffMid, h, hv]
theorem diffAt_other (y : At) (a : List At) (x : At) (b : List At) (h : y.key = x.key) (hv : ¬ y.v = x.v) : diffAt (y :: a) x b = chg x :: diffP a b := by
  have : ¬ y.key < x.key := by omega
  simp [diffAt, diffMid, h, hv]
theorem diffAt_more (y : At) (a : List At) (x : At) (b : List At) (h : x.key < y.key) : diffAt (y :: a) x b = chg x :: diffP (y :: a) b := by
  have h1 : ¬ y.key < x.key := by omega
  have h2 : ¬ y.key = x.key := by omega
  simp [diffAt, diffMid, h1, h2]
theorem diffAt_nil (x : At) (b : List At) : diffAt [] x b = chg x :: diffP [] b := by simp [diffAt, diffMid]

def composeP : List Ch → List Ch → List Ch
  | p, [] => p
  | p, c :: q => (p.takeWhile (fun a => decide (a.key ≤ c.key))).filter (fun a => decide (a.key < c.key)) ++ c :: composeP (p.dropWhile (fun a => decide (a.key ≤ c.key))) q
def composeAt (p : List Ch) (c : Ch) (q : List Ch) : List Ch :=
  (p.takeWhile (fun a => decide (a.key ≤ c.key))).filter (fun a => decide (a.key < c.key)) ++ c :: composeP (p.dropWhile (fun a => decide (a.key ≤ c.key))) q
theorem composeP_cons (p : List Ch) (c : Ch) (q : List Ch) : composeP p (c :: q) = composeAt p c q := by simp [composeP, composeAt]
theorem composeP_nil (p : List Ch) : composeP p [] = p := by simp [composeP]
theorem composeAt_less (a : Ch) (p : List Ch) (c : Ch) (q : List Ch) (h : a.key < c.key) : composeAt (a :: p) c q = a :: composeAt p c q := by
  have : a.key ≤ c.key := by omega
  simp [composeAt, h, this]
theorem composeAt_eq (a : Ch) (p : List Ch) (c : Ch) (q : List Ch) (h : a.key = c.key) : composeAt (a :: p) c q = composeAt p c q := by
  simp [composeAt, h]
theorem composeAt_more (a : Ch) (p : List Ch) (c : Ch) (q : List Ch) (h : c.key < a.key) : composeAt (a :: p) c q = c :: composeP (a :: p) q := by
  have : ¬ a.key ≤ c.key := by omega
  simp [composeAt, this]
theorem composeAt_nil (c : Ch) (q : List Ch) : composeAt [] c q = c :: composeP [] q := by simp [composeAt]

def getA (l : List At) (key : Int) : Option V := (l.find? (fun a => decide (a.key = key))).map (·.v)
def inv1 (set : List At) (c : Ch) : List Ch :=
  match getA set c.key with
  | some v => if c.gone = true ∨ ¬ v = c.v then [⟨c.key, false, v⟩] else []
  | none => if c.gone = true then [] else [⟨c.key, true, V.zero⟩]
def invertP (set : List At) (p : List Ch) : List Ch := p.flatMap (inv1 set)
end Go.Proofs.Ytfnkjcodcoehcaa

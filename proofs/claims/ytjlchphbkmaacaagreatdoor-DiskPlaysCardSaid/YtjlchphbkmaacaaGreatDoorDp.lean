/- A disk as plain data: what each call of package disk does to it (no program in sight), and the one law on how a map's entries read. -/
import Derived.Maps.OwnSet
import Derived.Maps.Views
import Derived.Sort.KeysCollected
import Derived.Lib.SlTrimSet
set_option linter.unusedVariables false
set_option linter.unusedSimpArgs false
namespace Go.Proofs.YtjlchphbkmaacaaGreatDoor
namespace Dk

abbrev Nm := List UInt8
structure Fi where
  b : List UInt8
  fast : Nat
structure St where
  F : List (Nm × Fi)
  quota : Int
  fuse : Int
  off : Bool

def del (n : Nm) (F : List (Nm × Fi)) : List (Nm × Fi) := F.filter fun x => !(x.1 == n)
def ins (x : Nm × Fi) : List (Nm × Fi) → List (Nm × Fi)
  | [] => [x]
  | y :: r => if bytesBefore x.1 y.1 then x :: y :: r else y :: ins x r
def put (n : Nm) (f : Fi) (F : List (Nm × Fi)) : List (Nm × Fi) := ins (n, f) (del n F)
def get (n : Nm) (F : List (Nm × Fi)) : Option Fi := (F.find? fun x => x.1 == n).map (·.2)
def setF (n : Nm) (f : Fi) (F : List (Nm × Fi)) : List (Nm × Fi) := F.map fun x => if x.1 == n then (x.1, f) else x

def alphabet : List UInt8 := [97, 98, 99, 100, 101, 102, 103, 104, 105, 106, 107, 108, 109, 110, 111, 112, 113, 114, 115, 116, 117, 118, 119, 120, 121, 122, 48, 49, 50, 51, 52, 53, 54, 55, 56, 57, 45, 46]
def may (n : Nm) : Bool := decide (1 ≤ n.length) && decide (n.length ≤ 32) && (Lib.trimS n alphabet).isEmpty

def total (F : List (Nm × Fi)) : Nat := (F.map fun x => x.2.b.length).sum
def used (s : St) : Nat := if s.off then 0 else total s.F
def names (s : St) : List Nm := if s.off then [] else s.F.map (·.1)

def answers (s : St) : Int := if s.off then 8 else 0
def there (n : Nm) (s : St) : Int := if may n then (if (get n s.F).isSome then 0 else 6) else 1

/-- The first of some errors. -/
def first : List Int → Int
  | [] => 0
  | n :: r => if n = 0 then first r else n

def burnt (s : St) : St := { s with off := true, fuse := -1 }
def less (s : St) : St := { s with fuse := if 0 < s.fuse then s.fuse - 1 else s.fuse }
/-- The last question: does the power hold? Then a change. -/
def burn (s : St) (k : St → St) : Int × St := if s.fuse = 0 then (8, burnt s) else (0, k (less s))
def asked (l : List Int) (s : St) (k : St → St) : Int × St := if first l = 0 then burn s k else (first l, s)

def create (n : Nm) (s : St) : Int × St :=
  asked [answers s, if may n then 0 else 1, if (get n s.F).isSome then 9 else 0, if 512 ≤ s.F.length then 7 else 0] s fun s => { s with F := put n ⟨[], 0⟩ s.F }
def append (n : Nm) (b : List UInt8) (s : St) : Int × St :=
  asked [answers s, there n s, if s.quota - used s < b.length then 7 else 0] s fun s => { s with F := setF n ⟨((get n s.F).getD ⟨[], 0⟩).b ++ b, ((get n s.F).getD ⟨[], 0⟩).fast⟩ s.F }
def sync (n : Nm) (s : St) : Int × St :=
  asked [answers s, there n s] s fun s => { s with F := setF n ⟨((get n s.F).getD ⟨[], 0⟩).b, ((get n s.F).getD ⟨[], 0⟩).b.length⟩ s.F }
def rename (o n : Nm) (s : St) : Int × St :=
  asked [answers s, if may n then 0 else 1, there o s] s fun s => if o = n then s else { s with F := del o (put n ((get o s.F).getD ⟨[], 0⟩) s.F) }
def truncate (n : Nm) (k : Int) (s : St) : Int × St :=
  asked [answers s, if k < 0 then 1 else 0, there n s, if (((get n s.F).getD ⟨[], 0⟩).b.length : Int) < k then 1 else 0] s
    fun s => { s with F := setF n ⟨((get n s.F).getD ⟨[], 0⟩).b.take k.toNat, min ((get n s.F).getD ⟨[], 0⟩).fast k.toNat⟩ s.F }
def remove (n : Nm) (s : St) : Int × St :=
  asked [answers s, there n s] s fun s => { s with F := del n s.F }
def quota (k : Int) (s : St) : Int × St := if k < 0 ∨ 4194304 < k then (1, s) else (0, { s with quota := k })
def fuse (k : Int) (s : St) : Int × St := if first [answers s, if k < -1 then 1 else 0] = 0 then (0, { s with fuse := k }) else (first [answers s, if k < -1 then 1 else 0], s)
def readE (n : Nm) (s : St) : Int := first [answers s, there n s]
def readB (n : Nm) (s : St) : List UInt8 := if readE n s = 0 then ((get n s.F).getD ⟨[], 0⟩).b else []
def loose (n : Nm) (s : St) : Nat := if readE n s = 0 then ((get n s.F).getD ⟨[], 0⟩).b.length - ((get n s.F).getD ⟨[], 0⟩).fast else 0

/-- What a crash leaves of the k-th file that has loose bytes. -/
def stays (picks : List Nat) (k : Nat) (f : Fi) : Nat := if k < picks.length then picks.getD k 0 % (f.b.length - f.fast + 1) else 0
def torn1 (torn : List UInt8) (k st : Nat) (b : List UInt8) : List UInt8 := if 0 < st ∧ k < torn.length then b.set (b.length - 1) (b.getD (b.length - 1) 0 ^^^ torn.getD k 0) else b
def crash1 (picks : List Nat) (torn : List UInt8) (k : Nat) (f : Fi) : Fi :=
  ⟨torn1 torn k (stays picks k f) (f.b.take (f.fast + stays picks k f)), f.fast + stays picks k f⟩
def crashF (picks : List Nat) (torn : List UInt8) : Nat → List (Nm × Fi) → List (Nm × Fi)
  | _, [] => []
  | k, x :: r => if x.2.b.length - x.2.fast = 0 then x :: crashF picks torn k r else (x.1, crash1 picks torn k x.2) :: crashF picks torn (k + 1) r
def crash (picks : List Nat) (torn : List UInt8) (s : St) : St := { s with off := false, fuse := -1, F := crashF picks torn 0 s.F }

/-- What may be relied on: how many files, how many bytes, what the numbers are, that the names rise. -/
structure Fine (s : St) : Prop where
  files : s.F.length ≤ 512
  bytes : total s.F ≤ 4194304
  q0 : 0 ≤ s.quota
  q1 : s.quota ≤ 4194304
  f0 : -1 ≤ s.fuse
  f1 : s.fuse ≤ 9223372036854775807
  fast : ∀ x ∈ s.F, x.2.fast ≤ x.2.b.length
  name : ∀ x ∈ s.F, x.1.length ≤ 32
  rise : s.F.Pairwise fun x y => bytesBefore x.1 y.1 = true

/-! ### how a map's entries read -/
def dat (blk : Nm → Nat) (F : List (Nm × Fi)) : DataW Nat := .map (F.map fun x => (.string x.1, .held (blk x.1)))
def upd (blk : Nm → Nat) (n : Nm) (g : Nat) : Nm → Nat := fun m => if m == n then g else blk m

theorem mem_del {n : Nm} {F : List (Nm × Fi)} {x : Nm × Fi} : x ∈ del n F ↔ x ∈ F ∧ x.1 ≠ n := by
  simp [del]
theorem mem_ins {x y : Nm × Fi} : ∀ {F : List (Nm × Fi)}, x ∈ ins y F ↔ x = y ∨ x ∈ F
  | [] => by simp [ins]
  | z :: r => by
    unfold ins
    split
    · simp
    · simp only [List.mem_cons, mem_ins (F := r)]
      constructor
      · rintro (h | h | h)
        · exact .inr (.inl h)
        · exact .inl h
        · exact .inr (.inr h)
      · rintro (h | h | h)
        · exact .inr (.inl h)
        · exact .inl h
        · exact .inr (.inr h)
theorem mem_put {n : Nm} {f : Fi} {F : List (Nm × Fi)} {x : Nm × Fi} : x ∈ put n f F ↔ x = (n, f) ∨ (x ∈ F ∧ x.1 ≠ n) := by
  rw [put, mem_ins, mem_del]

theorem dat_del (blk : Nm → Nat) (n : Nm) (F : List (Nm × Fi)) : (dat blk F).del (.string n) = dat blk (del n F) := by
  simp only [dat, DataW.del, del, List.filter_map]
  congr 1
theorem map_ins (blk : Nm → Nat) (n : Nm) (f : Fi) (F : List (Nm × Fi)) :
    DataW.insert (.string n, .held (blk n)) (F.map fun x => ((.string x.1, .held (blk x.1)) : Lit × DataW Nat)) = (ins (n, f) F).map fun x => ((.string x.1, .held (blk x.1)) : Lit × DataW Nat) := by
  induction F with
  | nil => rfl
  | cons y r ih =>
    cases h : bytesBefore n y.1
    · simp [DataW.insert, ins, Lit.before, h, ih]
    · simp [DataW.insert, ins, Lit.before, h]
theorem dat_put (blk : Nm → Nat) (n : Nm) (f : Fi) (g : Nat) (F : List (Nm × Fi)) : (dat blk F).put (.string n) (.held g) = dat (upd blk n g) (put n f F) := by
  have e1 : (dat blk F).put (.string n) (.held g) = .map (DataW.insert (.string n, .held g) ((del n F).map fun x => ((.string x.1, .held (blk x.1)) : Lit × DataW Nat))) := by
    simp only [dat, DataW.put, del, List.filter_map]
    congr 1
  have e2 : ((del n F).map fun x => ((.string x.1, .held (blk x.1)) : Lit × DataW Nat)) = (del n F).map fun x => ((.string x.1, .held (upd blk n g x.1)) : Lit × DataW Nat) := by
    refine List.map_congr_left fun x hx => ?_
    have := (mem_del.1 hx).2
    simp [upd, this]
  rw [e1, e2, show (DataW.held g : DataW Nat) = .held (upd blk n g n) by simp [upd], map_ins (upd blk n g) n f]
  rfl
theorem dat_set (blk : Nm → Nat) (n : Nm) (f : Fi) (F : List (Nm × Fi)) : dat blk (setF n f F) = dat blk F := by
  simp only [dat, setF, List.map_map]
  congr 1
  refine List.map_congr_left fun x _ => ?_
  simp only [Function.comp]
  split <;> rfl
theorem find_dat (blk : Nm → Nat) (n : Nm) (F : List (Nm × Fi)) :
    ((F.map fun x => ((.string x.1, .held (blk x.1)) : Lit × DataW Nat)).find? fun p => p.1.sameKey (.string n)) = (F.find? fun x => x.1 == n).map fun x => (.string x.1, .held (blk x.1)) := by
  rw [List.find?_map]
  rfl
theorem dat_at (blk : Nm → Nat) (n : Nm) (F : List (Nm × Fi)) : (dat blk F).atKey (.string n) .nil = if (get n F).isSome then .held (blk n) else .nil := by
  simp only [dat, DataW.atKey, find_dat, get]
  rcases Option.eq_none_or_eq_some (F.find? fun x => x.1 == n) with h | ⟨x, h⟩
  · simp [h]
  · have := List.find?_some h
    simp only [beq_iff_eq] at this
    simp [h, this]
theorem dat_keys (blk : Nm → Nat) (F : List (Nm × Fi)) : strKeys (dat blk F) = F.map (·.1) := by
  simp [dat, strKeys, strOf, Function.comp]
theorem dat_size (blk : Nm → Nat) (F : List (Nm × Fi)) : Maps.size (dat blk F) = F.length := by simp [dat, Maps.size]

theorem get_mem {n : Nm} {F : List (Nm × Fi)} {f : Fi} (h : get n F = some f) : (n, f) ∈ F := by
  unfold get at h
  obtain ⟨x, hx, rfl⟩ := Option.map_eq_some_iff.1 h
  have h1 := List.mem_of_find?_eq_some hx
  have h2 := List.find?_some hx
  simp only [beq_iff_eq] at h2
  rw [← h2]
  exact h1

end Dk
end Go.Proofs.YtjlchphbkmaacaaGreatDoor

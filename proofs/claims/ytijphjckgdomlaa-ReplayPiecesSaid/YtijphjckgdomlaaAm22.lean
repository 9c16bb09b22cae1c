/-
  How a function is walked: the beginning.
-/
import Derived.Test.YtijphjckgdomlaaAm21
set_option linter.all false
namespace Am
open Go

section
variable {P : Program}

/-- K, said in other words at the end. -/
def SaidN (P : Program) (n0 : Nat) (K : AV → Sto → Nat → Prop) (v : AV) (s : Sto) (nx : Nat) : Prop := ∃ v' s' nx', K v' s' nx' ∧ WeakS P n0 ⟨[(0, v)], s, nx⟩ ⟨[(0, v')], s', nx'⟩
abbrev Said (P : Program) (K : AV → Sto → Nat → Prop) (v : AV) (s : Sto) (nx : Nat) : Prop := SaidN P 0 K v s nx

def noIdV : AV → Bool
  | .c x => noId x
  | .agg xs => noIds xs
  | .un => true
  | .tup vs => go vs
where go : List AV → Bool
  | [] => true
  | .c x :: r => noId x && go r
  | .agg xs :: r => noIds xs && go r
  | _ => false

theorem noIdV_ck {W : Way} {s : Sto} : ∀ {v : AV}, noIdV v = true → ckV W s v v := by
  intro v h
  cases v with
  | c x => exact noId_ck h
  | agg xs => exact noIds_ck h
  | un => trivial
  | tup vs =>
    simp only [noIdV] at h
    simp only [ckV]
    induction vs with
    | nil => trivial
    | cons v r ih =>
      cases v with
      | c x => simp only [noIdV.go, Bool.and_eq_true] at h; exact ⟨noId_ck h.1, ih h.2⟩
      | agg xs => simp only [noIdV.go, Bool.and_eq_true] at h; exact ⟨noIds_ck h.1, ih h.2⟩
      | _ => simp [noIdV.go] at h

/-- A result without own memory: what was made is forgotten. -/
theorem said_plain {K : AV → Sto → Nat → Prop} {v : AV} {s : Sto} {nx : Nat} (h : K v [] 0) (hn : noIdV v = true) : Said P K v s nx :=
  ⟨v, [], 0, h, weak_of ⟨[], [], []⟩ ⟨⟨by simp only [look]; exact noIdV_ck hn, trivial⟩, trivial, trivial, by simp⟩⟩


/-- What the closed functions are. -/
structure Fct (P : Program) (n0 : Nat) (A : Ar) : Prop where
  it : A = real (TriS P) (WeakS P n0)

theorem walk {T : Tab} (hT : TabOk P T) (hm : P.follows .mixedOrders = true) {C : Cfg} (hM : MethsOk P C) {f : FuncId} {fn : Func} {c : Code} {vs : List AV} {K : AV → Sto → Nat → Prop} (hf : P.funcs[f]? = some fn) (hb : fn.body = some c) (hn : (fn.name == "runtime.NumGoroutine") = false)
    (hN : okD C fn.ntmps c = true) (hl : Nat.ble vs.length fn.ntmps = true) (n : Nat)
    (h : ∀ (ari : BinOp → IntKind → Int → Int → Int) (shf : BinOp → IntKind → Int → Int → Int) (cmp : BinOp → Int → Int → Bool) (scmp : BinOp → ByteArray → ByteArray → Bool) (band : Bool → Bool → Bool) (beq : Bool → Bool → Bool) (bnot : Bool → Bool) (neg : IntKind → Int → Int) (unx : IntKind → Int → Int) (wrap : IntKind → Int → Int) (slen : ByteArray → Int) (sat : ByteArray → Int → Int) (ssub : ByteArray → Int → Int → ByteArray) (cat : ByteArray → ByteArray → ByteArray) (bstr : Nat → (Nat → List CV) → ByteArray) (toN : Int → Nat) (sub : Nat → Nat → Nat) (add : Nat → Nat → Nat) (shift : (Nat → List CV) → Nat → Nat → List CV) (join : Nat → (Nat → List CV) → (Nat → List CV) → Nat → List CV) (setf : (Nat → List CV) → Nat → List CV → Nat → List CV) (bytes : ByteArray → Nat → List CV) (updb : (Int → Bool) → Int → Bool → Int → Bool) (updv : (Int → List CV) → Int → List CV → Int → List CV) (rng : Nat → Int → Prop) (idx : Int → Int → Prop) (isb : Nat → (Nat → List CV) → Prop) (le3 : Int → Int → Int → Prop) (nz : Int → Prop) (room : Nat → Nat → Prop) (nil0 : Nat → Bool → Prop) (catok : ByteArray → ByteArray → Prop) (rune : ByteArray → Nat → Int) (rnext : ByteArray → Nat → Nat) (more : ByteArray → Nat → Bool) (rstr : Int → ByteArray) (nid : Nat → (Nat → List CV) → Prop) (safe : Bool → AV → Sto → Prop) (tri : FuncId → List AV → Sto → Nat → (AV → Sto → Nat → Prop) → Prop) (weak : St → St → Prop)
      (Kx : AV → Sto → Nat → Prop) (_ : ∀ v s nx, Said P K v s nx → Kx v s nx) (_ : Fct P 0 ⟨ari, shf, cmp, scmp, band, beq, bnot, neg, unx, wrap, slen, sat, ssub, cat, bstr, toN, sub, add, shift, join, setf, bytes, updb, updv, rng, idx, isb, le3, nz, room, nil0, catok, rune, rnext, more, rstr, nid, safe, tri, weak⟩),
      run ⟨ari, shf, cmp, scmp, band, beq, bnot, neg, unx, wrap, slen, sat, ssub, cat, bstr, toN, sub, add, shift, join, setf, bytes, updb, updv, rng, idx, isb, le3, nz, room, nil0, catok, rune, rnext, more, rstr, nid, safe, tri, weak⟩ T C (fin T fn.results.toList Kx) n [.code c] ⟨argEnv 0 vs, [], 0⟩) :
    TriS P f vs [] 0 K :=
  (tri_of_run hT hM hm hf hb hn hN (Nat.le_of_ble_eq_true hl) n (h _ _ _ _ _ _ _ _ _ _ _ _ _ _ _ _ _ _ _ _ _ _ _ _ _ _ _ _ _ _ _ _ _ _ _ _ _ _ _ _ (Said P K) (fun _ _ _ h => h) ⟨rfl⟩)).say fun _ _ _ h => h
theorem walkN {s : Sto} {n0 : Nat} {T : Tab} (hT : TabOk P T) (hm : P.follows .mixedOrders = true) {C : Cfg} (hM : MethsOk P C) {f : FuncId} {fn : Func} {c : Code} {vs : List AV} {K : AV → Sto → Nat → Prop} (hf : P.funcs[f]? = some fn) (hb : fn.body = some c) (hn : (fn.name == "runtime.NumGoroutine") = false)
    (hN : okD C fn.ntmps c = true) (hl : Nat.ble vs.length fn.ntmps = true) (n : Nat)
    (h : ∀ (ari : BinOp → IntKind → Int → Int → Int) (shf : BinOp → IntKind → Int → Int → Int) (cmp : BinOp → Int → Int → Bool) (scmp : BinOp → ByteArray → ByteArray → Bool) (band : Bool → Bool → Bool) (beq : Bool → Bool → Bool) (bnot : Bool → Bool) (neg : IntKind → Int → Int) (unx : IntKind → Int → Int) (wrap : IntKind → Int → Int) (slen : ByteArray → Int) (sat : ByteArray → Int → Int) (ssub : ByteArray → Int → Int → ByteArray) (cat : ByteArray → ByteArray → ByteArray) (bstr : Nat → (Nat → List CV) → ByteArray) (toN : Int → Nat) (sub : Nat → Nat → Nat) (add : Nat → Nat → Nat) (shift : (Nat → List CV) → Nat → Nat → List CV) (join : Nat → (Nat → List CV) → (Nat → List CV) → Nat → List CV) (setf : (Nat → List CV) → Nat → List CV → Nat → List CV) (bytes : ByteArray → Nat → List CV) (updb : (Int → Bool) → Int → Bool → Int → Bool) (updv : (Int → List CV) → Int → List CV → Int → List CV) (rng : Nat → Int → Prop) (idx : Int → Int → Prop) (isb : Nat → (Nat → List CV) → Prop) (le3 : Int → Int → Int → Prop) (nz : Int → Prop) (room : Nat → Nat → Prop) (nil0 : Nat → Bool → Prop) (catok : ByteArray → ByteArray → Prop) (rune : ByteArray → Nat → Int) (rnext : ByteArray → Nat → Nat) (more : ByteArray → Nat → Bool) (rstr : Int → ByteArray) (nid : Nat → (Nat → List CV) → Prop) (safe : Bool → AV → Sto → Prop) (tri : FuncId → List AV → Sto → Nat → (AV → Sto → Nat → Prop) → Prop) (weak : St → St → Prop)
      (Kx : AV → Sto → Nat → Prop) (_ : ∀ v s nx, SaidN P n0 K v s nx → Kx v s nx) (_ : Fct P n0 ⟨ari, shf, cmp, scmp, band, beq, bnot, neg, unx, wrap, slen, sat, ssub, cat, bstr, toN, sub, add, shift, join, setf, bytes, updb, updv, rng, idx, isb, le3, nz, room, nil0, catok, rune, rnext, more, rstr, nid, safe, tri, weak⟩),
      run ⟨ari, shf, cmp, scmp, band, beq, bnot, neg, unx, wrap, slen, sat, ssub, cat, bstr, toN, sub, add, shift, join, setf, bytes, updb, updv, rng, idx, isb, le3, nz, room, nil0, catok, rune, rnext, more, rstr, nid, safe, tri, weak⟩ T C (fin T fn.results.toList Kx) n [.code c] ⟨argEnv 0 vs, s, n0⟩) :
    TriS P f vs s n0 K :=
  (tri_of_run hT hM hm hf hb hn hN (Nat.le_of_ble_eq_true hl) n (h _ _ _ _ _ _ _ _ _ _ _ _ _ _ _ _ _ _ _ _ _ _ _ _ _ _ _ _ _ _ _ _ _ _ _ _ _ _ _ _ (SaidN P n0 K) (fun _ _ _ h => h) ⟨rfl⟩)).say fun _ _ _ h => h
theorem noMeths {C : Cfg} (h : C.meths = []) : MethsOk P C := fun t f hl => by rw [h] at hl; simp [look] at hl

section
variable {n0 : Nat}
variable {ari' : BinOp → IntKind → Int → Int → Int} {shf' : BinOp → IntKind → Int → Int → Int} {cmp' : BinOp → Int → Int → Bool} {scmp' : BinOp → ByteArray → ByteArray → Bool} {band' : Bool → Bool → Bool} {beq' : Bool → Bool → Bool} {bnot' : Bool → Bool} {neg' : IntKind → Int → Int} {unx' : IntKind → Int → Int} {wrap' : IntKind → Int → Int} {slen' : ByteArray → Int} {sat' : ByteArray → Int → Int} {ssub' : ByteArray → Int → Int → ByteArray} {cat' : ByteArray → ByteArray → ByteArray} {bstr' : Nat → (Nat → List CV) → ByteArray} {toN' : Int → Nat} {sub' : Nat → Nat → Nat} {add' : Nat → Nat → Nat} {shift' : (Nat → List CV) → Nat → Nat → List CV} {join' : Nat → (Nat → List CV) → (Nat → List CV) → Nat → List CV} {setf' : (Nat → List CV) → Nat → List CV → Nat → List CV} {bytes' : ByteArray → Nat → List CV} {updb' : (Int → Bool) → Int → Bool → Int → Bool} {updv' : (Int → List CV) → Int → List CV → Int → List CV} {rng' : Nat → Int → Prop} {idx' : Int → Int → Prop} {isb' : Nat → (Nat → List CV) → Prop} {le3' : Int → Int → Int → Prop} {nz' : Int → Prop} {room' : Nat → Nat → Prop} {nil0' : Nat → Bool → Prop} {catok' : ByteArray → ByteArray → Prop} {rune' : ByteArray → Nat → Int} {rnext' : ByteArray → Nat → Nat} {more' : ByteArray → Nat → Bool} {rstr' : Int → ByteArray} {nid' : Nat → (Nat → List CV) → Prop} {safe' : Bool → AV → Sto → Prop} {tri' : FuncId → List AV → Sto → Nat → (AV → Sto → Nat → Prop) → Prop} {weak' : St → St → Prop}
theorem Fct.ari (F : Fct P n0 ⟨ari', shf', cmp', scmp', band', beq', bnot', neg', unx', wrap', slen', sat', ssub', cat', bstr', toN', sub', add', shift', join', setf', bytes', updb', updv', rng', idx', isb', le3', nz', room', nil0', catok', rune', rnext', more', rstr', nid', safe', tri', weak'⟩) : ari' = (real (TriS P) (WeakS P n0)).ari := congrArg Ar.ari F.it
theorem Fct.shf (F : Fct P n0 ⟨ari', shf', cmp', scmp', band', beq', bnot', neg', unx', wrap', slen', sat', ssub', cat', bstr', toN', sub', add', shift', join', setf', bytes', updb', updv', rng', idx', isb', le3', nz', room', nil0', catok', rune', rnext', more', rstr', nid', safe', tri', weak'⟩) : shf' = (real (TriS P) (WeakS P n0)).shf := congrArg Ar.shf F.it
theorem Fct.cmp (F : Fct P n0 ⟨ari', shf', cmp', scmp', band', beq', bnot', neg', unx', wrap', slen', sat', ssub', cat', bstr', toN', sub', add', shift', join', setf', bytes', updb', updv', rng', idx', isb', le3', nz', room', nil0', catok', rune', rnext', more', rstr', nid', safe', tri', weak'⟩) : cmp' = (real (TriS P) (WeakS P n0)).cmp := congrArg Ar.cmp F.it
theorem Fct.scmp (F : Fct P n0 ⟨ari', shf', cmp', scmp', band', beq', bnot', neg', unx', wrap', slen', sat', ssub', cat', bstr', toN', sub', add', shift', join', setf', bytes', updb', updv', rng', idx', isb', le3', nz', room', nil0', catok', rune', rnext', more', rstr', nid', safe', tri', weak'⟩) : scmp' = (real (TriS P) (WeakS P n0)).scmp := congrArg Ar.scmp F.it
theorem Fct.band (F : Fct P n0 ⟨ari', shf', cmp', scmp', band', beq', bnot', neg', unx', wrap', slen', sat', ssub', cat', bstr', toN', sub', add', shift', join', setf', bytes', updb', updv', rng', idx', isb', le3', nz', room', nil0', catok', rune', rnext', more', rstr', nid', safe', tri', weak'⟩) : band' = (real (TriS P) (WeakS P n0)).band := congrArg Ar.band F.it
theorem Fct.beq (F : Fct P n0 ⟨ari', shf', cmp', scmp', band', beq', bnot', neg', unx', wrap', slen', sat', ssub', cat', bstr', toN', sub', add', shift', join', setf', bytes', updb', updv', rng', idx', isb', le3', nz', room', nil0', catok', rune', rnext', more', rstr', nid', safe', tri', weak'⟩) : beq' = (real (TriS P) (WeakS P n0)).beq := congrArg Ar.beq F.it
theorem Fct.bnot (F : Fct P n0 ⟨ari', shf', cmp', scmp', band', beq', bnot', neg', unx', wrap', slen', sat', ssub', cat', bstr', toN', sub', add', shift', join', setf', bytes', updb', updv', rng', idx', isb', le3', nz', room', nil0', catok', rune', rnext', more', rstr', nid', safe', tri', weak'⟩) : bnot' = (real (TriS P) (WeakS P n0)).bnot := congrArg Ar.bnot F.it
theorem Fct.neg (F : Fct P n0 ⟨ari', shf', cmp', scmp', band', beq', bnot', neg', unx', wrap', slen', sat', ssub', cat', bstr', toN', sub', add', shift', join', setf', bytes', updb', updv', rng', idx', isb', le3', nz', room', nil0', catok', rune', rnext', more', rstr', nid', safe', tri', weak'⟩) : neg' = (real (TriS P) (WeakS P n0)).neg := congrArg Ar.neg F.it
theorem Fct.unx (F : Fct P n0 ⟨ari', shf', cmp', scmp', band', beq', bnot', neg', unx', wrap', slen', sat', ssub', cat', bstr', toN', sub', add', shift', join', setf', bytes', updb', updv', rng', idx', isb', le3', nz', room', nil0', catok', rune', rnext', more', rstr', nid', safe', tri', weak'⟩) : unx' = (real (TriS P) (WeakS P n0)).unx := congrArg Ar.unx F.it
theorem Fct.wrap (F : Fct P n0 ⟨ari', shf', cmp', scmp', band', beq', bnot', neg', unx', wrap', slen', sat', ssub', cat', bstr', toN', sub', add', shift', join', setf', bytes', updb', updv', rng', idx', isb', le3', nz', room', nil0', catok', rune', rnext', more', rstr', nid', safe', tri', weak'⟩) : wrap' = (real (TriS P) (WeakS P n0)).wrap := congrArg Ar.wrap F.it
theorem Fct.slen (F : Fct P n0 ⟨ari', shf', cmp', scmp', band', beq', bnot', neg', unx', wrap', slen', sat', ssub', cat', bstr', toN', sub', add', shift', join', setf', bytes', updb', updv', rng', idx', isb', le3', nz', room', nil0', catok', rune', rnext', more', rstr', nid', safe', tri', weak'⟩) : slen' = (real (TriS P) (WeakS P n0)).slen := congrArg Ar.slen F.it
theorem Fct.sat (F : Fct P n0 ⟨ari', shf', cmp', scmp', band', beq', bnot', neg', unx', wrap', slen', sat', ssub', cat', bstr', toN', sub', add', shift', join', setf', bytes', updb', updv', rng', idx', isb', le3', nz', room', nil0', catok', rune', rnext', more', rstr', nid', safe', tri', weak'⟩) : sat' = (real (TriS P) (WeakS P n0)).sat := congrArg Ar.sat F.it
theorem Fct.ssub (F : Fct P n0 ⟨ari', shf', cmp', scmp', band', beq', bnot', neg', unx', wrap', slen', sat', ssub', cat', bstr', toN', sub', add', shift', join', setf', bytes', updb', updv', rng', idx', isb', le3', nz', room', nil0', catok', rune', rnext', more', rstr', nid', safe', tri', weak'⟩) : ssub' = (real (TriS P) (WeakS P n0)).ssub := congrArg Ar.ssub F.it
theorem Fct.cat (F : Fct P n0 ⟨ari', shf', cmp', scmp', band', beq', bnot', neg', unx', wrap', slen', sat', ssub', cat', bstr', toN', sub', add', shift', join', setf', bytes', updb', updv', rng', idx', isb', le3', nz', room', nil0', catok', rune', rnext', more', rstr', nid', safe', tri', weak'⟩) : cat' = (real (TriS P) (WeakS P n0)).cat := congrArg Ar.cat F.it
theorem Fct.bstr (F : Fct P n0 ⟨ari', shf', cmp', scmp', band', beq', bnot', neg', unx', wrap', slen', sat', ssub', cat', bstr', toN', sub', add', shift', join', setf', bytes', updb', updv', rng', idx', isb', le3', nz', room', nil0', catok', rune', rnext', more', rstr', nid', safe', tri', weak'⟩) : bstr' = (real (TriS P) (WeakS P n0)).bstr := congrArg Ar.bstr F.it
theorem Fct.toN (F : Fct P n0 ⟨ari', shf', cmp', scmp', band', beq', bnot', neg', unx', wrap', slen', sat', ssub', cat', bstr', toN', sub', add', shift', join', setf', bytes', updb', updv', rng', idx', isb', le3', nz', room', nil0', catok', rune', rnext', more', rstr', nid', safe', tri', weak'⟩) : toN' = Int.toNat := congrArg Ar.toN F.it
theorem Fct.sub (F : Fct P n0 ⟨ari', shf', cmp', scmp', band', beq', bnot', neg', unx', wrap', slen', sat', ssub', cat', bstr', toN', sub', add', shift', join', setf', bytes', updb', updv', rng', idx', isb', le3', nz', room', nil0', catok', rune', rnext', more', rstr', nid', safe', tri', weak'⟩) : sub' = (real (TriS P) (WeakS P n0)).sub := congrArg Ar.sub F.it
theorem Fct.add (F : Fct P n0 ⟨ari', shf', cmp', scmp', band', beq', bnot', neg', unx', wrap', slen', sat', ssub', cat', bstr', toN', sub', add', shift', join', setf', bytes', updb', updv', rng', idx', isb', le3', nz', room', nil0', catok', rune', rnext', more', rstr', nid', safe', tri', weak'⟩) : add' = (real (TriS P) (WeakS P n0)).add := congrArg Ar.add F.it
theorem Fct.shift (F : Fct P n0 ⟨ari', shf', cmp', scmp', band', beq', bnot', neg', unx', wrap', slen', sat', ssub', cat', bstr', toN', sub', add', shift', join', setf', bytes', updb', updv', rng', idx', isb', le3', nz', room', nil0', catok', rune', rnext', more', rstr', nid', safe', tri', weak'⟩) : shift' = (real (TriS P) (WeakS P n0)).shift := congrArg Ar.shift F.it
theorem Fct.join (F : Fct P n0 ⟨ari', shf', cmp', scmp', band', beq', bnot', neg', unx', wrap', slen', sat', ssub', cat', bstr', toN', sub', add', shift', join', setf', bytes', updb', updv', rng', idx', isb', le3', nz', room', nil0', catok', rune', rnext', more', rstr', nid', safe', tri', weak'⟩) : join' = (real (TriS P) (WeakS P n0)).join := congrArg Ar.join F.it
theorem Fct.setf (F : Fct P n0 ⟨ari', shf', cmp', scmp', band', beq', bnot', neg', unx', wrap', slen', sat', ssub', cat', bstr', toN', sub', add', shift', join', setf', bytes', updb', updv', rng', idx', isb', le3', nz', room', nil0', catok', rune', rnext', more', rstr', nid', safe', tri', weak'⟩) : setf' = (real (TriS P) (WeakS P n0)).setf := congrArg Ar.setf F.it
theorem Fct.bytes (F : Fct P n0 ⟨ari', shf', cmp', scmp', band', beq', bnot', neg', unx', wrap', slen', sat', ssub', cat', bstr', toN', sub', add', shift', join', setf', bytes', updb', updv', rng', idx', isb', le3', nz', room', nil0', catok', rune', rnext', more', rstr', nid', safe', tri', weak'⟩) : bytes' = (real (TriS P) (WeakS P n0)).bytes := congrArg Ar.bytes F.it
theorem Fct.updb (F : Fct P n0 ⟨ari', shf', cmp', scmp', band', beq', bnot', neg', unx', wrap', slen', sat', ssub', cat', bstr', toN', sub', add', shift', join', setf', bytes', updb', updv', rng', idx', isb', le3', nz', room', nil0', catok', rune', rnext', more', rstr', nid', safe', tri', weak'⟩) : updb' = (real (TriS P) (WeakS P n0)).updb := congrArg Ar.updb F.it
theorem Fct.updv (F : Fct P n0 ⟨ari', shf', cmp', scmp', band', beq', bnot', neg', unx', wrap', slen', sat', ssub', cat', bstr', toN', sub', add', shift', join', setf', bytes', updb', updv', rng', idx', isb', le3', nz', room', nil0', catok', rune', rnext', more', rstr', nid', safe', tri', weak'⟩) : updv' = (real (TriS P) (WeakS P n0)).updv := congrArg Ar.updv F.it
theorem Fct.rng (F : Fct P n0 ⟨ari', shf', cmp', scmp', band', beq', bnot', neg', unx', wrap', slen', sat', ssub', cat', bstr', toN', sub', add', shift', join', setf', bytes', updb', updv', rng', idx', isb', le3', nz', room', nil0', catok', rune', rnext', more', rstr', nid', safe', tri', weak'⟩) : rng' = (real (TriS P) (WeakS P n0)).rng := congrArg Ar.rng F.it
theorem Fct.idx (F : Fct P n0 ⟨ari', shf', cmp', scmp', band', beq', bnot', neg', unx', wrap', slen', sat', ssub', cat', bstr', toN', sub', add', shift', join', setf', bytes', updb', updv', rng', idx', isb', le3', nz', room', nil0', catok', rune', rnext', more', rstr', nid', safe', tri', weak'⟩) : idx' = (real (TriS P) (WeakS P n0)).idx := congrArg Ar.idx F.it
theorem Fct.isb (F : Fct P n0 ⟨ari', shf', cmp', scmp', band', beq', bnot', neg', unx', wrap', slen', sat', ssub', cat', bstr', toN', sub', add', shift', join', setf', bytes', updb', updv', rng', idx', isb', le3', nz', room', nil0', catok', rune', rnext', more', rstr', nid', safe', tri', weak'⟩) : isb' = (real (TriS P) (WeakS P n0)).isb := congrArg Ar.isb F.it
theorem Fct.le3 (F : Fct P n0 ⟨ari', shf', cmp', scmp', band', beq', bnot', neg', unx', wrap', slen', sat', ssub', cat', bstr', toN', sub', add', shift', join', setf', bytes', updb', updv', rng', idx', isb', le3', nz', room', nil0', catok', rune', rnext', more', rstr', nid', safe', tri', weak'⟩) : le3' = (real (TriS P) (WeakS P n0)).le3 := congrArg Ar.le3 F.it
theorem Fct.nz (F : Fct P n0 ⟨ari', shf', cmp', scmp', band', beq', bnot', neg', unx', wrap', slen', sat', ssub', cat', bstr', toN', sub', add', shift', join', setf', bytes', updb', updv', rng', idx', isb', le3', nz', room', nil0', catok', rune', rnext', more', rstr', nid', safe', tri', weak'⟩) : nz' = (real (TriS P) (WeakS P n0)).nz := congrArg Ar.nz F.it
theorem Fct.room (F : Fct P n0 ⟨ari', shf', cmp', scmp', band', beq', bnot', neg', unx', wrap', slen', sat', ssub', cat', bstr', toN', sub', add', shift', join', setf', bytes', updb', updv', rng', idx', isb', le3', nz', room', nil0', catok', rune', rnext', more', rstr', nid', safe', tri', weak'⟩) : room' = (real (TriS P) (WeakS P n0)).room := congrArg Ar.room F.it
theorem Fct.nil0 (F : Fct P n0 ⟨ari', shf', cmp', scmp', band', beq', bnot', neg', unx', wrap', slen', sat', ssub', cat', bstr', toN', sub', add', shift', join', setf', bytes', updb', updv', rng', idx', isb', le3', nz', room', nil0', catok', rune', rnext', more', rstr', nid', safe', tri', weak'⟩) : nil0' = (real (TriS P) (WeakS P n0)).nil0 := congrArg Ar.nil0 F.it
theorem Fct.catok (F : Fct P n0 ⟨ari', shf', cmp', scmp', band', beq', bnot', neg', unx', wrap', slen', sat', ssub', cat', bstr', toN', sub', add', shift', join', setf', bytes', updb', updv', rng', idx', isb', le3', nz', room', nil0', catok', rune', rnext', more', rstr', nid', safe', tri', weak'⟩) : catok' = (real (TriS P) (WeakS P n0)).catok := congrArg Ar.catok F.it
theorem Fct.rune (F : Fct P n0 ⟨ari', shf', cmp', scmp', band', beq', bnot', neg', unx', wrap', slen', sat', ssub', cat', bstr', toN', sub', add', shift', join', setf', bytes', updb', updv', rng', idx', isb', le3', nz', room', nil0', catok', rune', rnext', more', rstr', nid', safe', tri', weak'⟩) : rune' = (real (TriS P) (WeakS P n0)).rune := congrArg Ar.rune F.it
theorem Fct.rnext (F : Fct P n0 ⟨ari', shf', cmp', scmp', band', beq', bnot', neg', unx', wrap', slen', sat', ssub', cat', bstr', toN', sub', add', shift', join', setf', bytes', updb', updv', rng', idx', isb', le3', nz', room', nil0', catok', rune', rnext', more', rstr', nid', safe', tri', weak'⟩) : rnext' = (real (TriS P) (WeakS P n0)).rnext := congrArg Ar.rnext F.it
theorem Fct.more (F : Fct P n0 ⟨ari', shf', cmp', scmp', band', beq', bnot', neg', unx', wrap', slen', sat', ssub', cat', bstr', toN', sub', add', shift', join', setf', bytes', updb', updv', rng', idx', isb', le3', nz', room', nil0', catok', rune', rnext', more', rstr', nid', safe', tri', weak'⟩) : more' = (real (TriS P) (WeakS P n0)).more := congrArg Ar.more F.it
theorem Fct.rstr (F : Fct P n0 ⟨ari', shf', cmp', scmp', band', beq', bnot', neg', unx', wrap', slen', sat', ssub', cat', bstr', toN', sub', add', shift', join', setf', bytes', updb', updv', rng', idx', isb', le3', nz', room', nil0', catok', rune', rnext', more', rstr', nid', safe', tri', weak'⟩) : rstr' = (real (TriS P) (WeakS P n0)).rstr := congrArg Ar.rstr F.it
theorem Fct.nid (F : Fct P n0 ⟨ari', shf', cmp', scmp', band', beq', bnot', neg', unx', wrap', slen', sat', ssub', cat', bstr', toN', sub', add', shift', join', setf', bytes', updb', updv', rng', idx', isb', le3', nz', room', nil0', catok', rune', rnext', more', rstr', nid', safe', tri', weak'⟩) : nid' = (real (TriS P) (WeakS P n0)).nid := congrArg Ar.nid F.it
theorem Fct.safe (F : Fct P n0 ⟨ari', shf', cmp', scmp', band', beq', bnot', neg', unx', wrap', slen', sat', ssub', cat', bstr', toN', sub', add', shift', join', setf', bytes', updb', updv', rng', idx', isb', le3', nz', room', nil0', catok', rune', rnext', more', rstr', nid', safe', tri', weak'⟩) : safe' = safeS := congrArg Ar.safe F.it
theorem Fct.tri (F : Fct P n0 ⟨ari', shf', cmp', scmp', band', beq', bnot', neg', unx', wrap', slen', sat', ssub', cat', bstr', toN', sub', add', shift', join', setf', bytes', updb', updv', rng', idx', isb', le3', nz', room', nil0', catok', rune', rnext', more', rstr', nid', safe', tri', weak'⟩) : tri' = TriS P := congrArg Ar.tri F.it
theorem Fct.weak (F : Fct P n0 ⟨ari', shf', cmp', scmp', band', beq', bnot', neg', unx', wrap', slen', sat', ssub', cat', bstr', toN', sub', add', shift', join', setf', bytes', updb', updv', rng', idx', isb', le3', nz', room', nil0', catok', rune', rnext', more', rstr', nid', safe', tri', weak'⟩) : weak' = WeakS P n0 := congrArg Ar.weak F.it
/-- A call, by a contract. (Don't rewrite by 'Fct.tri': it would reach into what follows.) -/
theorem Fct.call (F : Fct P n0 ⟨ari', shf', cmp', scmp', band', beq', bnot', neg', unx', wrap', slen', sat', ssub', cat', bstr', toN', sub', add', shift', join', setf', bytes', updb', updv', rng', idx', isb', le3', nz', room', nil0', catok', rune', rnext', more', rstr', nid', safe', tri', weak'⟩) {f : FuncId} {vs : List AV} {s : Sto} {nx : Nat} {K K' : AV → Sto → Nat → Prop} (h : TriS P f vs s nx K') (hk : ∀ v s n, K' v s n → K v s n) : tri' f vs s nx K := by
  rw [F.tri]
  exact h.mono hk
theorem Fct.say (F : Fct P 0 ⟨ari', shf', cmp', scmp', band', beq', bnot', neg', unx', wrap', slen', sat', ssub', cat', bstr', toN', sub', add', shift', join', setf', bytes', updb', updv', rng', idx', isb', le3', nz', room', nil0', catok', rune', rnext', more', rstr', nid', safe', tri', weak'⟩) (W : Way) {st st' : St} (h : Ck W st st') : weak' st st' := by
  rw [F.weak]
  exact weak_of W h
theorem Fct.sayA (F : Fct P n0 ⟨ari', shf', cmp', scmp', band', beq', bnot', neg', unx', wrap', slen', sat', ssub', cat', bstr', toN', sub', add', shift', join', setf', bytes', updb', updv', rng', idx', isb', le3', nz', room', nil0', catok', rune', rnext', more', rstr', nid', safe', tri', weak'⟩) (W : Way) {st st' : St} (h : CkA n0 W st st') : weak' st st' := by
  rw [F.weak]
  exact weak_at W h
theorem Fct.lent0 (F : Fct P n0 ⟨ari', shf', cmp', scmp', band', beq', bnot', neg', unx', wrap', slen', sat', ssub', cat', bstr', toN', sub', add', shift', join', setf', bytes', updb', updv', rng', idx', isb', le3', nz', room', nil0', catok', rune', rnext', more', rstr', nid', safe', tri', weak'⟩) {v : AV} : safe' false v [] := by
  rw [F.safe]
  exact ⟨by simp, by simp [look]⟩
theorem Fct.lent1 (F : Fct P n0 ⟨ari', shf', cmp', scmp', band', beq', bnot', neg', unx', wrap', slen', sat', ssub', cat', bstr', toN', sub', add', shift', join', setf', bytes', updb', updv', rng', idx', isb', le3', nz', room', nil0', catok', rune', rnext', more', rstr', nid', safe', tri', weak'⟩) {v : AV} (h : flatV v = true) : safe' true v [] := by
  rw [F.safe]
  exact ⟨fun _ => h, by simp [look]⟩
end
end
end Am

/- ClusterIgnores: the law's beginning, computed with what is not known told by a tape; what it must show. Conditions: none. -/
import Derived.Test.YtobnlhfgebfebaaGreatDoorCgB
import Derived.Test.YtobnlhfgebfebaaGreatDoorCgC
import Derived.Test.YtobnlhfgebfebaaGreatDoorWdWx
import Derived.KernelRfl
namespace Go.Proofs.YtobnlhfgebfebaaGreatDoor
open Go.Dp
set_option linter.unusedSimpArgs false
set_option linter.unusedVariables false

/-- told by the tape: Within, task.within, the closed law -/
def igP (f : Nat) : Bool := Nat.beq f n_depotbook_Within || (Nat.beq f n_task_within || Nat.beq f n_depotlaw24_ClusterRuns)
/-- told operations: slab.New's tests of the pages, the configuration as cluster.New and router.New read it -/
def igD (f d : Nat) : Bool := (Nat.beq f n_slab_New && (Nat.beq d 9 || Nat.beq d 12)) || ((Nat.beq f n_cluster_New && Nat.beq d 19) || ((Nat.beq f n_router_New && Nat.beq d 9) || (Nat.beq f n_depotkeep_Config && (Nat.beq d 9 || (Nat.beq d 21 || Nat.beq d 25)))))
noncomputable def igO : Fs.Orc := Fs.orcOf lib n_gf_Make igP
theorem ig_lib (f : Nat) (pf : PF) (h : igO f = none) (ht : tree0.get f = some (.code pf)) : lib f = some (.code pf) := by
  have : Nat.beq f n_depotlaw24_ClusterRuns = false := by
    cases hr : Nat.beq f n_depotlaw24_ClusterRuns with
    | false => rfl
    | true =>
      exfalso
      have hp : igP f = true := by unfold igP; rw [hr]; simp
      unfold igO Fs.orcOf at h
      simp only [Fs.bif'_eq, hp, cond_true] at h
      cases h
  unfold lib
  rw [show (Nat.beq f n_depotlaw24_ClusterRuns) = false from this]
  exact ht

def nI (n : Nat) : AV := .int .i64 (.ofNat n)
def cfgA (k m d s p : Nat) : AV := .agg [nI k, nI m, nI d, nI s, nI p, nI 4096]
/-- the tests of a slot's pages -/
def tapeS : Nat → List AV
  | 0 => []
  | n + 1 => .bool false :: .bool false :: tapeS n
def igT (m s p : Int) (K M x d pg : Nat) : List AV := [.int .i64 m, nI K, nI M, .int .i64 s, .int .i64 p, nI d, nI x, nI pg, .bool true, .bool true, .bool true, .bool true, cfgA K M d (K + M + x) pg, cfgA K M d (K + M + x) pg] ++ tapeS (K + M + x)

def rowsOk : Nat → List AV → Bool
  | 0, _ => true
  | n + 1, l => (match negIf true (aggEq frKs (.agg (l.take 9)) (.agg (l.take 9))) with
    | some (.bool false) => rowsOk n (l.drop 9)
    | _ => false)
noncomputable def chkR (T : Fs.FH) (w : AV) (S : Nat) : Bool := match w with
  | .sl wb _ _ _ => (match Fs.gt T.t wb with
    | some (.c _ t4 _) => (match Fs.rng t4 (S * 9) 0 with
      | some l => rowsOk S l && l.all AV.isSc
      | none => false)
    | _ => false)
  | _ => false
noncomputable def chkO (T : Fs.FH) (o : AV) (S : Nat) : Bool := match o with
  | .ptr b f => Nat.beq f 0 && (match Fs.gt T.t b with
    | some (.c N t _) => Nat.ble 4 N && (match Fs.gt t 3 with
      | some (.int .i64 (.ofNat s)) => Nat.beq s S
      | _ => false)
    | _ => false)
  | _ => false
noncomputable def chkI (fr : Tr AV) (T : Fs.FH) (S : Nat) : Bool :=
  chkC T (Fs.look fr 6) (Fs.look fr 8) S && (chkR T (Fs.look fr 8) S && (chkO T (Fs.look fr 5) S && ((Fs.gt fr 96).isSome && ((Fs.gt fr 97).isNone && Nat.ble 1 T.next))))
/-- what the beginning comes to -/
noncomputable def igQ (m : Fs.Mid) (n : Nat) (t : Tr AV) (av : AV) (S : Nat) : Prop := match m with
  | some (.normal, fr, Z) => Fs.bif' (chkI fr Z.c S) (Z.ok ∧ (Fs.gt Z.c.t 0 = some (.c n t 0) ∧ Fs.look fr 1 = av)) False
  | _ => False
noncomputable def igS (n : Nat) (t : Tr AV) (tape : List AV) : Fs.FS := ⟨⟨.node .leaf (some (.c n t 0)) .leaf, 1⟩, tape, True⟩
noncomputable def igM (k m d s p z : Int) (av : AV) (n : Nat) (t : Tr AV) (tape : List AV) : Fs.Mid :=
  Fs.stageF tree0 igO (fun _ => false) igD 200 n_depotlaw24_ClusterIgnores 5 pf_depotlaw24_ClusterIgnores [.agg [.int .i64 k, .int .i64 m, .int .i64 d, .int .i64 s, .int .i64 p, .int .i64 z], av] (igS n t tape)

def conj (P : Prop) : List Prop → Prop
  | [] => P
  | Q :: l => conj (P ∧ Q) l
theorem conj_all : ∀ {l : List Prop} {P : Prop}, P → (∀ x ∈ l, x) → conj P l
  | [], _, hP, _ => hP
  | Q :: l, P, hP, h => conj_all (l := l) (P := P ∧ Q) ⟨hP, h Q (List.mem_cons_self)⟩ fun x hx => h x (List.mem_cons_of_mem _ hx)
def wT (x : Int) (lo hi r : Nat) : Prop := Fs.Pure lib n_depotbook_Within [.int .i64 x, nI lo, nI hi] (nI r)
def vT (x lo hi : Nat) : Prop := Fs.Pure lib n_task_within [nI x, nI lo, nI hi] (.bool true)
def sT (a b c d e : Nat) : Prop := sameV (cfgA a b c d e) (cfgA a b c d e) = true
def eT (a b c d e : Nat) : Prop := some (cfgA a b c d e) = some (cfgA a b c d e)
def pT (pg : Nat) : Prop := bin .lss (nI pg) (nI 1) = some (.bool false)
def qT (pg : Nat) : Prop := bin .gtr (nI pg) (nI 64) = some (.bool false)
def eI (x : Int) : Prop := some (AV.int .i64 x) = some (AV.int .i64 x)
def sI (x : Int) : Prop := sameV (.int .i64 x) (.int .i64 x) = true
def slT (pg : Nat) : Nat → List Prop
  | 0 => []
  | n + 1 => pT pg :: qT pg :: slT pg n
def igL (k m d s p : Int) (K M x dl pg : Nat) : List Prop :=
  [eI m, wT k 1 4 K, sI m, wT m 0 3 M, eI s, eI p, wT d 0 M dl, sI p, sI s, wT s 0 3 x, sI p, wT p 16 48 pg, vT dl 0 M, vT (K + M + x) (K + M) 12, vT pg 1 64, vT 4096 64 65536, eT K M dl (K + M + x) pg, sT K M dl (K + M + x) pg, eT K M dl (K + M + x) pg, sT K M dl (K + M + x) pg] ++ slT pg (K + M + x)
/-- one case -/
def IgCs (K M x : Nat) (k m d s p z : Int) (av : AV) (n : Nat) (t : Tr AV) (dl pg : Nat) : Prop :=
  igQ (igM k m d s p z av n t (igT m s p K M x dl pg)) n t av (K + M + x) = (conj True (igL k m d s p K M x dl pg) ∧ (some (Fs.FB.c n t 0) = some (Fs.FB.c n t 0) ∧ av = av))
theorem IgCs.of {K M x : Nat} {k m d s p z : Int} {av : AV} {n : Nat} {t : Tr AV} {dl pg : Nat} (h : igQ (igM k m d s p z av n t (igT m s p K M x dl pg)) n t av (K + M + x) = (conj True (igL k m d s p K M x dl pg) ∧ (some (Fs.FB.c n t 0) = some (Fs.FB.c n t 0) ∧ av = av))) : IgCs K M x k m d s p z av n t dl pg := h
end Go.Proofs.YtobnlhfgebfebaaGreatDoor

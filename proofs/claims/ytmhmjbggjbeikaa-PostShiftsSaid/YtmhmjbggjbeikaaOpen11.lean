/- The arguments of the laws of chapter 11: those of chapter 10 (texts, numbers). -/
import Derived.Test.YtmhmjbggjbeikaaAlive11
namespace Go.Proofs.Ytmhmjbggjbeikaa
end Go.Proofs.Ytmhmjbggjbeikaa
